/- The reader's words, one by one, keep what JsX asks. No program. -/
import Derived.Lib.RuneCount
import Derived.Laws.Strings
import Derived.Test.YtpjbjdheeemdiaaGreatDoorPa9
set_option linter.unusedVariables false
set_option linter.unusedSimpArgs false
namespace Go.Js
open Go
structure Hf {α:Type} (s:Bool) (p:BL->Out α):Prop where
  sf:Sf p
  pe:∀ n,Pe n p
  pb:∀ n,Pb n s p
structure Good {α:Type} (s:Bool) (p:BL->Out α):Prop extends Hf s p where
  bn:Bn s p
section
variable {α β:Type}
theorem Pe.mono {m n:Nat} {p:BL->Out α} (h:Pe n p) (hm:m<=n):Pe m p :=
  ⟨fun hx=>h.ext (by omega),fun hx=>h.eext (by omega),fun hx=>h.cutO (by omega),fun hx=>h.cutE (by omega)⟩
theorem Pb.mono {m n:Nat} {s:Bool} {p:BL->Out α} (h:Pb n s p) (hm:m<=n):Pb m s p :=
  ⟨fun hx=>h.bl (by omega),fun hx=>h.blo (by omega)⟩
theorem Good.tl {s:Bool} {g:BL->Out α} (h:Good s g):Hf s (tlP g) :=
  ⟨ZEQ h.sf,fun n=>(ZmI h.sf (h.pe n)).mono (Azb n),fun n=>(ZmJ (h.pb n) h.bn).mono (Azb n)⟩
theorem Good.okP (s:Bool) (a:α):Good s (Js.okP a):=⟨⟨Zw1 a,fun _=>Zw2 a,fun _=>Zw3 s a⟩,Zw4 s a⟩
theorem Hf.fail {s:Bool} {e:Nat} (he:e≠24):Hf s (Za1 e:BL->Out α):=⟨ZzY he,fun _=>ZoB,fun _=>ZoC he⟩
theorem Hf.ite {s:Bool} {c:Prop} [Decidable c] {p q:BL->Out α} (hp:Hf s p) (hq:Hf s q):Hf s (if c then p else q):=by split<;>assumption
theorem St.ite {k:Nat} {c:Prop} [Decidable c] {p q:BL->Out α} (hp:St k p) (hq:St k q):St k (if c then p else q):=by split<;>assumption
theorem St.mono {k m:Nat} {p:BL->Out α} (h:St k p) (hm:m<=k):St m p:=⟨fun e=>by have:=h.len e;omega⟩
theorem Zzc {p:BL->Out α} (h:St 1 p) {l r:BL} {a:α} (e:p l = .ok a r) (hl:l.length<=r.length) {P:Prop}:P:=by have:=h.len e;omega
theorem Hf.hd {s:Bool} {f:UInt8->BL->Out α} (hf:∀ c,Hf s (f c)) (hs:∀ c,St 1 (f c)):Hf s (hdP (.err 24 []) f) :=
  ⟨ZAP (.inr rfl) fun c=>(hf c).sf,fun n=>ZsK (.inl rfl) (fun c r b h=>Zzc (hs c) h (Aqo _)) fun c=>(hf c).pe n,fun n=>ZsL fun c=>(hf c).pb n⟩
theorem Hf.hdO {s:Bool} {a0:α} {f:UInt8->BL->Out α} (hf:∀ c,Hf s (f c)) (hs:∀ c,St 1 (f c)\/f c=Js.okP a0):Hf s (hdP (.ok a0 []) f):=by
  refine ⟨ZAP (.inl ⟨a0,rfl⟩) fun c=>(hf c).sf,fun n=>ZsK (.inr ⟨a0,rfl,fun c r b h=>?_⟩) (fun c r b h h2=>by cases h2) fun c=>(hf c).pe n,fun n=>ZsL fun c=>(hf c).pb n⟩
  rcases hs c with h1 | h1
  ·exact Zzc h1 h (Aqo _)
  ·rw [h1] at h;cases h;rfl
theorem Good.hd {s:Bool} {f:UInt8->BL->Out α} (hf:∀ c,Hf s (f c)) (hs:∀ c,St 1 (f c)) (hb:∀ c,XJ c=true->∃ e,f c=Za1 e):Good s (hdP (.err 24 []) f):=⟨Hf.hd hf hs,ZFs hb⟩
theorem Good.hdO {s:Bool} {a0:α} {f:UInt8->BL->Out α} (hf:∀ c,Hf s (f c)) (hs:∀ c,St 1 (f c)\/f c=Js.okP a0) (hb:∀ c,XJ c=true->f c=Js.okP a0):Good s (hdP (.ok a0 []) f):=⟨Hf.hdO hf hs,ZDg hb⟩
theorem Hf.bind {s s':Bool} {p:BL->Out α} {f:α->BL->Out β} (hp:Hf s p) (hf:∀ a,Good s' (f a)):Hf (s&&s') fun l=>(p l).bind f :=
  ⟨hp.sf.bind fun a=>(hf a).sf,fun n=>Pe.bind (m:=n) (k:=0) (hp.pe n) hp.sf hp.sf.st (fun a=>(hf a).pe n) fun a=>(hf a).sf,
   fun n=>Pb.bind (m:=n) (k:=0) (hp.pe n) (hp.pb n) hp.sf hp.sf.st (fun a=>(hf a).pb n) fun a=>(hf a).bn⟩
theorem Good.bind {s s':Bool} {p:BL->Out α} {f:α->BL->Out β} (hp:Good s p) (hf:∀ a,Good s' (f a)):Good (s&&s') fun l=>(p l).bind f :=
  ⟨hp.toHf.bind hf,hp.bn.bind hp.sf fun a=>(hf a).bn⟩
theorem Good.got {p:BL->Out α} (h:Good true p):Good true (Zid p):=⟨⟨Zrv h.sf,fun n=>Zrw (h.pe n),fun n=>ZxI (h.pb n)⟩,ZDo h.bn⟩
end
theorem Zfh:Good false (Zdy XJ):=⟨⟨ZoG _,fun _=>ZsZ _,fun _=>Zz4 _⟩,Zz5 _⟩
theorem Zz6:Good true (Zdy ZdP):=⟨⟨ZoG _,fun _=>ZsZ _,fun _=>ZxY⟩,ZxZ⟩
theorem Zj3:Zay=hdP (.err 24 []) fun c=>if ZdP c then tlP (Zdy ZdP) else Za1 21:=by
  funext l
  rcases l with _ | ⟨c,l⟩
  ·rfl
  ·dsimp only [Zay,hdP]
   split<;>rfl
theorem ZlS:St 1 Zay:=by
  rw [Zj3]
  exact ZlE (fun a r h=>by cases h) fun c=>St.ite (ZbM (Zjo _)) Za9
theorem Zg2:Good true Zay:=by
  rw [Zj3]
  refine Good.hd (fun c=>Hf.ite Zz6.tl (Hf.fail (by decide))) (fun c=>St.ite (ZbM (Zjo _)) Za9) fun c hc=>⟨21,?_⟩
  rcases ZfQ hc with rfl | rfl | rfl | rfl<;>rfl
def ZE7:BL->Out Unit:=fun l=> .ok () (Zgq l)
theorem ZC0:ZE7=hdP (.ok () []) fun c=>if c=45 then tlP (okP ()) else okP ():=by
  funext l
  rcases l with _ | ⟨c,l⟩
  ·rfl
  ·dsimp only [ZE7,Zgq,hdP]
   split<;>rfl
theorem Zsy:Good true ZE7:=by
  rw [ZC0]
  refine Good.hdO (fun c=>Hf.ite (Good.okP _ _).tl (Good.okP _ _).toHf) (fun c=>?_) fun c hc=>?_
  ·by_cases h:c=45
   ·left;rw [if_pos h];exact ZbM (Zhc _)
   ·right;rw [if_neg h]
  ·rcases ZfQ hc with rfl | rfl | rfl | rfl<;>rfl
def ZEW:BL->Out Unit:=fun l=> .ok () (Zn0 l)
theorem ZCK:ZEW=hdP (.ok () []) fun c=>if c=43\/c=45 then tlP (okP ()) else okP ():=by
  funext l
  rcases l with _ | ⟨c,l⟩
  ·rfl
  ·dsimp only [ZEW,Zn0,hdP]
   split<;>rfl
theorem Zse:Good true ZEW:=by
  rw [ZCK]
  refine Good.hdO (fun c=>Hf.ite (Good.okP _ _).tl (Good.okP _ _).toHf) (fun c=>?_) fun c hc=>?_
  ·by_cases h:c=43\/c=45
   ·left;rw [if_pos h];exact ZbM (Zhc _)
   ·right;rw [if_neg h]
  ·rcases ZfQ hc with rfl | rfl | rfl | rfl<;>rfl
theorem Zm2:ZeE=hdP (.ok () []) fun c=>if ZdP c then Za1 21 else okP ():=by
  funext l
  rcases l with _ | ⟨c,l⟩
  ·rfl
  ·dsimp only [ZeE,hdP]
   split<;>rfl
theorem ZiD:Good true ZeE:=by
  rw [Zm2]
  refine Good.hdO (fun c=>Hf.ite (Hf.fail (by decide)) (Good.okP _ _).toHf) (fun c=>?_) fun c hc=>?_
  ·by_cases h:ZdP c=true
   ·left;rw [if_pos h];exact Za9
   ·right;rw [if_neg h]
  ·rcases ZfQ hc with rfl | rfl | rfl | rfl<;>rfl
theorem Zrq:ZpU=hdP (.err 24 []) fun c=>if c=48 then tlP ZeE else Zay:=by
  funext l
  rcases l with _ | ⟨c,l⟩
  ·rfl
  ·dsimp only [ZpU,hdP]
   split<;>rfl
theorem ZFn:St 1 ZpU:=by
  rw [Zrq]
  exact ZlE (fun a r h=>by cases h) fun c=>St.ite (ZbM ZiD.sf.st) ZlS
theorem ZFo:Hf true ZpU:=by
  rw [Zrq]
  exact Hf.hd (fun c=>Hf.ite ZiD.tl Zg2.toHf) fun c=>St.ite (ZbM ZiD.sf.st) ZlS
theorem ZzI:Good true ZpU:=by
  refine ⟨ZFo,fun {b} _ hb=>?_,fun {b a} h=>by cases h⟩
  rcases b with _ | ⟨c,b⟩
  ·exact ⟨24,[],rfl,Ayg _⟩
  ·refine ⟨21,c::b,?_,Ayg _⟩
   rcases ZfQ (hb c (by simp)) with rfl | rfl | rfl | rfl<;>rfl
theorem ZsR:Zkx=hdP (.ok () []) fun c=>if c=46 then tlP Zay else okP ():=by
  funext l
  rcases l with _ | ⟨c,l⟩
  ·rfl
  ·dsimp only [Zkx,hdP]
   split<;>rfl
theorem Zp4:Good true Zkx:=by
  rw [ZsR]
  refine Good.hdO (fun c=>Hf.ite Zg2.tl (Good.okP _ _).toHf) (fun c=>?_) fun c hc=>?_
  ·by_cases h:c=46
   ·left;rw [if_pos h];exact St.mono (ZbM ZlS) (by omega)
   ·right;rw [if_neg h]
  ·rcases ZfQ hc with rfl | rfl | rfl | rfl<;>rfl
theorem ZxT:ZoD=hdP (.ok () []) fun c=>if c=101\/c=69 then tlP (fun l=>(ZEW l).bind fun _=>Zay) else okP ():=by
  funext l
  rcases l with _ | ⟨c,l⟩
  ·rfl
  ·dsimp only [ZoD,hdP]
   split<;>rfl
theorem ZsV:Good true ZoD:=by
  rw [ZxT]
  refine Good.hdO (fun c=>Hf.ite (Zse.bind fun _=>Zg2).tl (Good.okP _ _).toHf) (fun c=>?_) fun c hc=>?_
  ·by_cases h:c=101\/c=69
   ·left;rw [if_pos h];exact ZbM (k:=0) (Zse.bind fun _=>Zg2).sf.st
   ·right;rw [if_neg h]
  ·rcases ZfQ hc with rfl | rfl | rfl | rfl<;>rfl
theorem Zre:Zm1=fun l=>(ZE7 l).bind fun _ l=>(ZpU l).bind fun _ l=>(Zkx l).bind fun _=>ZoD:=rfl
theorem Zzz:Good true Zm1:=by
  rw [Zre]
  exact Zsy.bind fun _=>ZzI.bind fun _=>Zp4.bind fun _=>ZsV
theorem ZAF:St 1 Zm1:=by
  rw [Zre]
  exact St.mono (St.bind (k:=0) (m:=1) Zsy.sf.st fun _=>St.bind (k:=1) (m:=0) ZFn fun _=>(Zp4.bind fun _=>ZsV).sf.st) (by omega)
theorem ZrU (c:UInt8) (w:BL):ZfD (c::w)=hdP (.err 24 []) fun d=>if d=c then tlP (ZfD w) else Za1 20:=by
  funext l
  rcases l with _ | ⟨d,l⟩
  ·rfl
  ·dsimp only [ZfD,hdP]
   split<;>rfl
theorem Zfe:∀ (w:BL),(∀ c∈w,XJ c=false)->Good true (ZfD w)/\St w.length (ZfD w)
  | [],_=>⟨Good.okP true (),Zhc ()⟩
  | c::w,h=>by
    obtain ⟨a,b⟩:=Zfe w fun d hd=>h d (by simp [hd])
    rw [ZrU]
    refine ⟨Good.hd (fun d=>Hf.ite a.tl (Hf.fail (by decide))) (fun d=>St.ite (St.mono (ZbM b) (by omega)) Za9) fun d hd=>⟨20,?_⟩,ZlE (fun a r h=>by cases h) fun d=>St.ite (ZbM b) Za9⟩
    rw [if_neg]
    intro e
    rw [e,h c (by simp)] at hd
    cases hd
theorem ZxH (k n:Nat):ZiI (k+1) n=hdP (.err 24 []) fun c=>match ZoU c with
    | some d=>tlP (ZiI k (n*16+d))
    | none=>Za1 22:=by
  funext l
  rcases l with _ | ⟨c,l⟩
  ·rfl
  ·dsimp only [ZiI,hdP]
   cases ZoU c<;>rfl
theorem Zox:∀ (k n:Nat),Good true (ZiI k n)/\St k (ZiI k n)
  | 0,n=>⟨Good.okP true n,Zhc n⟩
  | k+1,n=>by
    rw [ZxH]
    have ih:=fun m=>Zox k m
    refine ⟨Good.hd (fun c=>?_) (fun c=>?_) fun c hc=>⟨22,?_⟩,ZlE (fun a r h=>by cases h) fun c=>?_⟩
    ·cases ZoU c with
     | some d=>exact (ih _).1.tl
     | none=>exact Hf.fail (by decide)
    ·cases ZoU c with
     | some d=>exact St.mono (ZbM (ih _).2) (by omega)
     | none=>exact Za9
    ·rcases ZfQ hc with rfl | rfl | rfl | rfl<;>rfl
    ·cases ZoU c with
     | some d=>exact ZbM (ih _).2
     | none=>exact Za9
theorem Zwq:Zpm=hdP (.err 24 []) fun c=>match Zhi c with
    | some m=>tlP (okP (.ch m))
    | none=>if c=117 then tlP (fun l=>(ZiI 4 0 l).bind fun n=>okP (.uni n)) else Za1 22:=by
  funext l
  rcases l with _ | ⟨c,l⟩
  ·rfl
  ·dsimp only [Zpm,hdP]
   cases Zhi c with
   | some m=>rfl
   | none=>dsimp only;split<;>rfl
theorem ZcC:Good true Zpm:=by
  rw [Zwq]
  refine Good.hd (fun c=>?_) (fun c=>?_) fun c hc=>⟨22,?_⟩
  ·cases Zhi c with
   | some m=>exact (Good.okP _ _).tl
   | none=>exact Hf.ite ((Zox 4 0).1.bind fun _=>Good.okP true _).tl (Hf.fail (by decide))
  ·cases Zhi c with
   | some m=>exact ZbM (Zhc _)
   | none=>exact St.ite ((ZbM (k:=0) ((Zox 4 0).1.bind (s':=true) fun _=>Good.okP true _).sf.st)) Za9
  ·rcases ZfQ hc with rfl | rfl | rfl | rfl<;>rfl
theorem Zs1 (n lo hi:Nat):ZeO (n+1) lo hi=hdP (.err 24 []) fun d=>if lo<=d.toNat/\d.toNat<=hi then tlP (ZeO n 128 191) else Za1 22:=by
  funext l
  rcases l with _ | ⟨c,l⟩
  ·rfl
  ·dsimp only [ZeO,hdP]
   split<;>rfl
theorem ZlW:∀ (n lo hi:Nat),128<=lo->Good true (ZeO n lo hi)
  | 0,_,_,_=>Good.okP true ()
  | n+1,lo,hi,h=>by
    rw [Zs1]
    refine Good.hd (fun c=>Hf.ite (ZlW n 128 191 (Aqo _)).tl (Hf.fail (by decide))) (fun c=>St.ite (ZbM (k:=0) (ZlW n 128 191 (Aqo _)).sf.st) Za9) fun c hc=>⟨22,?_⟩
    rw [if_neg]
    rcases ZfQ hc with rfl | rfl | rfl | rfl<;>(intro hh;have:=hh.1;simp at this;omega)
theorem Zsf:ZcD=hdP (.err 24 []) fun c=>if nRb c=0 then Za1 22 else tlP (ZeO (nRb c - 1) (loR c) (hiR c)):=by
  funext l
  rcases l with _ | ⟨c,l⟩
  ·rfl
  ·dsimp only [ZcD,hdP]
   split<;>rfl
theorem ZC4:∀ b:Fin 256,2<=nRb ⟨⟨b⟩⟩->128<=loR ⟨⟨b⟩⟩:=by decide +kernel
theorem ZC5:∀ c:UInt8,2<=nRb c->128<=loR c:=fun ⟨⟨b⟩⟩=>ZC4 b
theorem ZgF:Hf true ZcD/\St 1 ZcD:=by
  rw [Zsf]
  have key:∀ c,Good true (ZeO (nRb c - 1) (loR c) (hiR c)):=fun c=>by
    by_cases h:2<=nRb c
    ·exact ZlW _ _ _ (ZC5 c h)
    ·rw [show nRb c - 1=0 by omega];exact Good.okP true ()
  have st:∀ c,St 1 (if nRb c=0 then Za1 22 else tlP (ZeO (nRb c - 1) (loR c) (hiR c))):=fun c=>St.ite Za9 (ZbM (k:=0) (key c).sf.st)
  exact ⟨Hf.hd (fun c=>Hf.ite (Hf.fail (by decide)) (key c).tl) st,ZlE (fun a r h=>by cases h) st⟩
def T (p:Option Nat) (out:BL):BL->Out BL:=fun l=>ZdB (l.length+1) p out l
def tF (p:Option Nat) (out:BL) (c:UInt8):BL->Out BL :=
  if c.toNat<32 then Za1 22
  else if c=34 then tlP (okP (out++flB p))
  else if c=92 then tlP fun l=>(Zpm l).bind fun t=>T (Zr7 p out t).1 (Zr7 p out t).2
  else if c.toNat<128 then tlP (T none (out++flB p++[c]))
  else fun l=>(Zid ZcD l).bind fun o=>T none (out++flB p++o)
theorem Zyp {n:Nat} {p:Option Nat} {out l:BL} (h:l.length<n):ZdB n p out l=T p out l:=Ze4 _ _ _ _ _ h (Azc _)
theorem ZMe (p:Option Nat) (out:BL):T p out=hdP (.err 24 []) (tF p out):=by
  funext l
  rcases l with _ | ⟨c,l⟩
  ·rfl
  ·show ZdB ((c::l).length+1) p out (c::l)=tF p out c (c::l)
   unfold ZdB tF
   split
   ·rfl
   split
   ·rfl
   split
   ·show _=(Zpm l).bind _
    cases h:Zpm l with
    | err e r=>rfl
    | ok t r=>exact Zyp (by have:=(Zi2 h).1;simp;omega)
   split
   ·exact Zyp (by simp)
   ·show _=(Zid ZcD (c::l)).bind _
    unfold Zid
    cases h:ZcD (c::l) with
    | err e r=>rfl
    | ok t r=>exact Zyp (by have:=(Zeo h).1;simp at this ⊢;omega)
theorem ZkE:∀ (n:Nat) (p:Option Nat) (out l:BL),l.length<n->(∀ a r,ZdB n p out l = .ok a r->r <:+l/\r.length<l.length)/\∀ e r,ZdB n p out l = .err e r->r <:+l/\(e=24↔r=[])
  | 0,_,_,_,h=>by omega
  | n+1,p,out,[],_=>⟨fun a r h=>(by cases h),fun e r h=>by cases h;simp⟩
  | n+1,p,out,c::l,h=>by
    simp only [Aqj] at h
    have up:∀ {r q:BL},r.length<(c::l).length->r <:+c::l->∀ {p':Option Nat} {out':BL},(∀ a q,ZdB n p' out' r = .ok a q->q <:+c::l/\q.length<(c::l).length)/\∀ e q,ZdB n p' out' r = .err e q->q <:+c::l/\(e=24↔q=[]):=fun {r q} hr hs {p' out'}=>by
      obtain ⟨a,b⟩:=ZkE n p' out' r (by simp at hr;omega)
      exact ⟨fun x q hq=>⟨(a x q hq).1.trans hs,Nat.lt_trans (a x q hq).2 hr⟩,fun e q hq=>⟨(b e q hq).1.trans hs,(b e q hq).2⟩⟩
    unfold ZdB
    split
    ·exact ⟨fun a r h=>(by cases h),fun e r h=>by cases h;simp⟩
    split
    ·exact ⟨fun a r h=>by cases h;exact ⟨Aye _ _,by simp⟩,fun e r h=>by cases h⟩
    split
    ·cases ht:Zpm l with
     | err e r=>exact ⟨fun a q h=>(by cases h),fun e q h=>by cases h;exact ⟨Zbx (ZcC.sf.esuf ht).1,(ZcC.sf.esuf ht).2⟩⟩
     | ok t r=>exact up (q:=[]) (by have:=(Zi2 ht).1;simp;omega) (Zbx (Zi2 ht).2)
    split
    ·exact up (q:=[]) (by simp) (Aye _ _)
    ·cases ht:ZcD (c::l) with
     | err e r=>exact ⟨fun a q h=>(by cases h),fun e q h=>by cases h;exact ZgF.1.sf.esuf ht⟩
     | ok t r=>exact up (q:=[]) (Zeo ht).1 (Zeo ht).2
theorem ZFL (p:Option Nat) (out:BL):Sf (T p out):=⟨fun h=>((ZkE _ p out _ (Azc _)).1 _ _ h).1,fun h=>(ZkE _ p out _ (Azc _)).2 _ _ h⟩
theorem ZMf (p:Option Nat) (out:BL):St 1 (T p out):=⟨fun h=>((ZkE _ p out _ (Azc _)).1 _ _ h).2⟩
theorem ZLH (p:Option Nat) (out:BL) (c:UInt8):St 1 (tF p out c):=by
  unfold tF
  refine St.ite Za9 (St.ite (ZbM (Zhc _)) (St.ite (ZbM (k:=0) ?_) (St.ite (St.mono (ZbM (ZMf _ _)) (by omega)) ?_)))
  ·exact St.mono (m:=0) (St.bind (k:=0) (m:=1) ZcC.sf.st fun t=>ZMf _ _) (by omega)
  ·exact St.mono (m:=1) (St.bind (k:=1) (m:=1) (Zoy ZgF.2) fun t=>ZMf _ _) (by omega)
theorem Zyq:∀ (b:BL) (p:Option Nat) (out:BL),Blk b->∃ e r,T p out b = .err e r/\r <:+b
  | [],p,out,_=>⟨24,[],rfl,Ayg _⟩
  | c::b,p,out,h=>by
    rw [ZMe]
    show ∃ e r,tF p out c (c::b)=_/\_
    rcases ZfQ (h c (by simp)) with rfl | rfl | rfl | rfl
    ·obtain ⟨e,r,h1,h2⟩:=Zyq b none (out++flB p++[32]) h.tail
     exact ⟨e,r,h1,Zbx h2⟩
    ·exact ⟨22,_,rfl,Ayg _⟩
    ·exact ⟨22,_,rfl,Ayg _⟩
    ·exact ⟨22,_,rfl,Ayg _⟩
theorem ZFM (p:Option Nat) (out:BL):Bn true (T p out):=⟨fun _ hb=>Zyq _ p out hb,fun h=>by cases h⟩
theorem ZFU:∀ (n:Nat) (p:Option Nat) (out:BL),Pe n (T p out)
  | 0,_,_=>⟨fun h=>by omega,fun h=>by omega,fun h=>by omega,fun h=>by omega⟩
  | n+1,p,out=>by
    rw [ZMe]
    refine ZsK (.inl rfl) (fun c r b h=>Zzc (ZLH p out c) h (Aqo _)) fun c=>?_
    unfold tF
    split
    ·exact ZoB
    split
    ·exact ZmI (Zw1 _) (Zw2 _)
    split
    ·exact ZmI (ZcC.sf.bind fun t=>ZFL _ _) (Pe.bind (m:=n) (k:=0) (ZcC.pe n) ZcC.sf ZcC.sf.st (fun t=>ZFU n _ _) fun t=>ZFL _ _)
    split
    ·exact ZmI (ZFL _ _) (ZFU n _ _)
    ·exact Pe.bind (m:=n) (k:=1) (Zrw (ZgF.1.pe _)) (Zrv ZgF.1.sf) (Zoy ZgF.2) (fun t=>ZFU n _ _) fun t=>ZFL _ _
theorem ZFV:∀ (n:Nat) (p:Option Nat) (out:BL),Pb n true (T p out)
  | 0,_,_=>⟨fun h=>by omega,fun h=>by omega⟩
  | n+1,p,out=>by
    rw [ZMe]
    refine ZsL fun c=>?_
    unfold tF
    split
    ·exact ZoC (by decide)
    split
    ·exact ZmJ (Zw3 _ _) (Zw4 _ _)
    split
    ·exact ZmJ (Pb.bind (m:=n) (k:=0) (s:=true) (s':=true) (ZcC.pe n) (ZcC.pb n) ZcC.sf ZcC.sf.st (fun t=>ZFV n _ _) fun t=>ZFM _ _) (ZcC.bn.bind (s':=true) ZcC.sf fun t=>ZFM _ _)
    split
    ·exact ZmJ (ZFV n _ _) (ZFM _ _)
    ·exact Pb.bind (m:=n) (k:=1) (s:=true) (s':=true) (Zrw (ZgF.1.pe _)) (ZxI (ZgF.1.pb _)) (Zrv ZgF.1.sf) (Zoy ZgF.2) (fun t=>ZFV n _ _) fun t=>ZFM _ _
theorem ZAU (p:Option Nat) (out:BL):Good true (T p out):=⟨⟨ZFL p out,fun n=>ZFU n p out,fun n=>ZFV n p out⟩,ZFM p out⟩
theorem ZnV:ZnW=T none []:=by
  funext l
  exact (ZnT _ l (Azc _)).1 []
def nmP:BL->Out BL:=fun l=>(Zdy XJ l).bind fun _=>hdP (.err 24 []) fun c=>if c=34 then tlP fun l=>(ZnW l).bind fun nm l=>(Zdy XJ l).bind fun _=>hdP (.err 24 []) fun d=>if d=58 then tlP (okP nm) else Za1 20 else Za1 20
theorem Zsw:Zji=nmP:=by
  funext l
  show Zji l=hdP _ _ (Za3 l)
  unfold Zji
  cases Za3 l with
  | nil=>rfl
  | cons c l1 =>
    show _=(if c=34 then _ else _:BL->Out BL) (c::l1)
    dsimp only
    split
    ·show _=(ZnW l1).bind _
     congr 1
     funext nm l2
     show _=hdP _ _ (Za3 l2)
     cases Za3 l2 with
     | nil=>rfl
     | cons d l3 =>
       show _=(if d=58 then _ else _:BL->Out BL) (d::l3)
       dsimp only
       split<;>rfl
    ·rfl
theorem ZkJ {c d:UInt8} (hc:XJ c=true) (hd:XJ d=false):c≠d:=fun e=>by rw [e,hd] at hc;cases hc
theorem ZpK:Good false Zji/\St 1 Zji:=by
  rw [Zsw]
  have g3:∀ nm:BL,Good false (hdP (.err 24 []) fun d=>if d=58 then tlP (okP nm) else Za1 20):=fun nm=>by
    refine Good.hd (fun c=>Hf.ite (Good.okP _ _).tl (Hf.fail (by decide))) (fun c=>St.ite (ZbM (Zhc _)) Za9) fun c hc=>⟨20,?_⟩
    rw [if_neg (ZkJ hc (by decide))]
  have g2:∀ nm:BL,Good false fun l=>(Zdy XJ l).bind fun _=>hdP (.err 24 []) fun d=>if d=58 then tlP (okP nm) else Za1 20:=fun nm=>Zfh.bind fun _=>g3 nm
  have g1:Good false fun l=>(ZnW l).bind fun nm l=>(Zdy XJ l).bind fun _=>hdP (.err 24 []) fun d=>if d=58 then tlP (okP nm) else Za1 20:=by
    rw [ZnV]
    exact (ZAU none []).bind fun nm=>g2 nm
  have g0:Good false (hdP (.err 24 []) fun c=>if c=34 then tlP fun l=>(ZnW l).bind fun nm l=>(Zdy XJ l).bind fun _=>hdP (.err 24 []) fun d=>if d=58 then tlP (okP nm) else Za1 20 else Za1 20)/\St 1 (hdP (.err 24 []) fun c=>if c=34 then tlP fun l=>(ZnW l).bind fun nm l=>(Zdy XJ l).bind fun _=>hdP (.err 24 []) fun d=>if d=58 then tlP (okP nm) else Za1 20 else Za1 20):=by
    have st:∀ c:UInt8,St 1 (if c=34 then tlP fun l=>(ZnW l).bind fun nm l=>(Zdy XJ l).bind fun _=>hdP (.err 24 []) fun d=>if d=58 then tlP (okP nm) else Za1 20 else Za1 20):=fun c=>St.ite (ZbM (k:=0) g1.sf.st) Za9
    refine ⟨Good.hd (fun c=>Hf.ite g1.tl (Hf.fail (by decide))) st fun c hc=>⟨20,?_⟩,ZlE (fun a r h=>by cases h) st⟩
    rw [if_neg (ZkJ hc (by decide))]
  exact ⟨Zfh.bind fun _=>g0.1,St.mono (St.bind (k:=0) (m:=1) (Zjo _) fun _=>g0.2) (by omega)⟩
section
variable {pv:BL->Out JV}
theorem Zsn (ob:Bool) (ns:List BL) (sub:JL):ZcW pv ob ns sub=if ob=true then fun l=>(Zji l).bind fun nm l=>(pv l).bind fun v l=>(Zdy XJ l).bind fun _=>okP (ns++[nm],sub.snoc v)
    else fun l=>(Zdy XJ l).bind fun _ l=>(pv l).bind fun v l=>(Zdy XJ l).bind fun _=>okP (ns,sub.snoc v):=by
  funext l
  unfold ZcW
  split<;>rfl
theorem Zeq (hv:Good false pv) (hs:St 1 pv) (ob:Bool) (ns:List BL) (sub:JL):Good false (ZcW pv ob ns sub)/\St 1 (ZcW pv ob ns sub):=by
  rw [Zsn]
  have fin:∀ a:List BL × JL,Good false fun l=>(Zdy XJ l).bind fun _=>okP a:=fun a=>Zfh.bind fun _=>Good.okP false a
  split
  ·exact ⟨ZpK.1.bind fun nm=>hv.bind fun v=>fin _,St.mono (m:=1) (St.bind (k:=1) (m:=1) ZpK.2 fun nm=>St.bind (k:=1) (m:=0) hs fun v=>(fin _).sf.st) (by omega)⟩
  ·exact ⟨Zfh.bind fun _=>hv.bind fun v=>fin _,St.mono (m:=1) (St.bind (k:=0) (m:=1) (Zjo _) fun _=>St.bind (k:=1) (m:=0) hs fun v=>(fin _).sf.st) (by omega)⟩
def L (pv:BL->Out JV) (ob:Bool) (ns:List BL) (sub:JL):BL->Out (List BL × JL):=fun l=>Zgs pv ob (l.length+1) ns sub l
theorem ZjV (hv:Good false pv) (hs:St 1 pv) (ob:Bool):∀ (n m:Nat) (ns:List BL) (sub:JL) (l:BL),l.length<n->l.length<m->Zgs pv ob n ns sub l=Zgs pv ob m ns sub l
  | 0,_,_,_,_,h,_=>by omega
  | _,0,_,_,_,_,h=>by omega
  | n+1,m+1,ns,sub,l,hn,hm=>by
    have go:∀ l',l'.length<=l.length->((ZcW pv ob ns sub l').bind fun p l2=>Zgs pv ob n p.1 p.2 l2)=(ZcW pv ob ns sub l').bind fun p l2=>Zgs pv ob m p.1 p.2 l2:=fun l' hl=>by
      cases e:ZcW pv ob ns sub l' with
      | err k r=>rfl
      | ok p r=>have:=(Zeq hv hs ob ns sub).2.len e;exact ZjV hv hs ob n m _ _ r (by omega) (by omega)
    unfold Zgs
    rw [go l (Aqo _),go l.tail (by simp)]
def lF (pv:BL->Out JV) (ob:Bool) (ns:List BL) (sub:JL) (c:UInt8):BL->Out (List BL × JL) :=
  if c=Zup ob then tlP (okP (ns,sub))
  else if sub.isNil=true then fun l=>(ZcW pv ob ns sub l).bind fun p=>L pv ob p.1 p.2
  else if c=44 then tlP fun l=>(ZcW pv ob ns sub l).bind fun p=>L pv ob p.1 p.2
  else Za1 20
theorem Zoe (h0:pv [] = .err 24 []) (ob:Bool) (ns:List BL) (sub:JL):ZcW pv ob ns sub [] = .err 24 []:=by
  unfold ZcW
  cases ob
  ·show (pv []).bind _=_
   rw [h0];rfl
  ·rfl
theorem ZFN (hv:Good false pv) (hs:St 1 pv) (h0:pv [] = .err 24 []) (ob:Bool) (ns:List BL) (sub:JL):L pv ob ns sub=hdP (.err 24 []) (lF pv ob ns sub):=by
  funext l
  rcases l with _ | ⟨c,l⟩
  ·show Zgs pv ob 1 ns sub [] = .err 24 []
   unfold Zgs
   rw [if_neg (by simp [Zhe]),Zoe h0]
   split
   ·rfl
   ·rw [if_neg (by simp [Zhe])];rfl
  ·show Zgs pv ob ((c::l).length+1) ns sub (c::l)=lF pv ob ns sub c (c::l)
   unfold Zgs lF
   have go:∀ l',l'.length<=(c::l).length->((ZcW pv ob ns sub l').bind fun p l2=>Zgs pv ob (c::l).length p.1 p.2 l2)=(ZcW pv ob ns sub l').bind fun p=>L pv ob p.1 p.2:=fun l' hl=>by
     cases e:ZcW pv ob ns sub l' with
     | err k r=>rfl
     | ok p r=>have:=(Zeq hv hs ob ns sub).2.len e;exact ZjV hv hs ob _ _ _ _ r (by omega) (by omega)
   rw [go _ (Aqo _),go (c::l).tail (by simp)]
   by_cases h1:c=Zup ob
   ·rw [if_pos h1,if_pos (by simp [Zhe,h1])];rfl
   rw [if_neg h1,if_neg (by simp [Zhe,h1])]
   by_cases h2:sub.isNil=true
   ·rw [if_pos h2,if_pos h2]
   rw [if_neg h2,if_neg h2]
   by_cases h3:c=44
   ·rw [if_pos h3,if_pos (by simp [Zhe,h3])];rfl
   ·rw [if_neg h3,if_neg (by simp [Zhe,h3])]
theorem Zor (hv:Good false pv) (hs:St 1 pv) (h0:pv [] = .err 24 []) (ob:Bool):∀ (n:Nat) (ns:List BL) (sub:JL) (l:BL),l.length<n->(∀ a r,L pv ob ns sub l = .ok a r->r <:+l/\r.length<l.length)/\∀ e r,L pv ob ns sub l = .err e r->r <:+l/\(e=24↔r=[])
  | 0,_,_,_,h=>by omega
  | n+1,ns,sub,l,h=>by
    have ih:∀ l',l'.length<=l.length->l' <:+l->(∀ a r,((ZcW pv ob ns sub l').bind fun p=>L pv ob p.1 p.2) = .ok a r->r <:+l/\r.length<l.length)/\∀ e r,((ZcW pv ob ns sub l').bind fun p=>L pv ob p.1 p.2) = .err e r->r <:+l/\(e=24↔r=[]):=fun l' hl hsuf=>by
      have pg:=Zeq hv hs ob ns sub
      cases e:ZcW pv ob ns sub l' with
      | err k q=>exact ⟨fun a r h=>(by cases h),fun e' r h=>by cases h;exact ⟨(pg.1.sf.esuf e).1.trans hsuf,(pg.1.sf.esuf e).2⟩⟩
      | ok p q =>
        have h1:=pg.2.len e
        have h2:=(pg.1.sf.suf e).trans hsuf
        obtain ⟨a,b⟩:=Zor hv hs h0 ob n p.1 p.2 q (by omega)
        exact ⟨fun x r hr=>⟨(a x r hr).1.trans h2,by have:=(a x r hr).2;omega⟩,fun e' r hr=>⟨(b e' r hr).1.trans h2,(b e' r hr).2⟩⟩
    rw [ZFN hv hs h0]
    rcases l with _ | ⟨c,l⟩
    ·exact ⟨fun a r h=>(by cases h),fun e r h=>by cases h;simp⟩
    show (∀ a r,lF pv ob ns sub c (c::l) = .ok a r->_)/\∀ e r,lF pv ob ns sub c (c::l) = .err e r->_
    unfold lF
    split
    ·exact ⟨fun a r h=>by cases h;exact ⟨Aye _ _,by simp⟩,fun e r h=>by cases h⟩
    split
    ·exact ih _ (Aqo _) (Ayg _)
    split
    ·exact ih l (by simp) (Aye _ _)
    ·exact ⟨fun a r h=>(by cases h),fun e r h=>by cases h;simp⟩
theorem Zxl (hv:Good false pv) (hs:St 1 pv) (h0:pv [] = .err 24 []) (ob:Bool) (ns:List BL) (sub:JL):Good false (L pv ob ns sub)/\St 1 (L pv ob ns sub):=by
  have sf:∀ ns sub,Sf (L pv ob ns sub):=fun ns sub=>⟨fun h=>((Zor hv hs h0 ob _ ns sub _ (Azc _)).1 _ _ h).1,fun h=>(Zor hv hs h0 ob _ ns sub _ (Azc _)).2 _ _ h⟩
  have st:∀ ns sub,St 1 (L pv ob ns sub):=fun ns sub=>⟨fun h=>((Zor hv hs h0 ob _ ns sub _ (Azc _)).1 _ _ h).2⟩
  have fst:∀ ns sub c,St 1 (lF pv ob ns sub c):=fun ns sub c=>by
    unfold lF
    have pg:=Zeq hv hs ob ns sub
    have b:St 1 fun l=>(ZcW pv ob ns sub l).bind fun p=>L pv ob p.1 p.2:=St.mono (m:=1) (St.bind (k:=1) (m:=1) pg.2 fun p=>st _ _) (by omega)
    exact St.ite (ZbM (Zhc _)) (St.ite b (St.ite (St.mono (ZbM b) (by omega)) Za9))
  have bn:∀ ns sub,Bn false (L pv ob ns sub):=fun ns sub=>by
    have pg:=Zeq hv hs ob ns sub
    rw [ZFN hv hs h0]
    refine ⟨fun {b} _ hb=>?_,fun h=>by cases h⟩
    rcases b with _ | ⟨c,b⟩
    ·exact ⟨24,[],rfl,Ayg _⟩
    ·have hc:=hb c (by simp)
     show ∃ e r,lF pv ob ns sub c (c::b)=_/\_
     unfold lF
     rw [if_neg (ZkJ hc (by cases ob<;>decide)),if_neg (c:=c=44) (ZkJ hc (by decide))]
     split
     ·obtain ⟨e,r,h1,h2⟩:=pg.1.bn.bl (Zoe h0 ob ns sub) hb
      exact ⟨e,r,by dsimp only;rw [h1];rfl,h2⟩
     ·exact ⟨20,_,rfl,Ayg _⟩
  have pe:∀ n ns sub,Pe n (L pv ob ns sub):=by
    intro n
    induction n with
    | zero=>intro ns sub;exact ⟨fun h=>by omega,fun h=>by omega,fun h=>by omega,fun h=>by omega⟩
    | succ n ih =>
      intro ns sub
      have pg:=Zeq hv hs ob ns sub
      rw [ZFN hv hs h0]
      refine ZsK (.inl rfl) (fun c r b h=>Zzc (fst ns sub c) h (Aqo _)) fun c=>?_
      unfold lF
      have b:Pe (n+1) fun l=>(ZcW pv ob ns sub l).bind fun p=>L pv ob p.1 p.2:=Pe.bind (m:=n) (k:=1) (pg.1.pe _) pg.1.sf pg.2 (fun p=>ih _ _) fun p=>sf _ _
      split
      ·exact ZmI (Zw1 _) (Zw2 _)
      split
      ·exact b
      split
      ·exact ZmI (pg.1.sf.bind fun p=>sf _ _) (b.mono (Azb n))
      ·exact ZoB
  have pb:∀ n ns sub,Pb n false (L pv ob ns sub):=by
    intro n
    induction n with
    | zero=>intro ns sub;exact ⟨fun h=>by omega,fun h=>by omega⟩
    | succ n ih =>
      intro ns sub
      have pg:=Zeq hv hs ob ns sub
      rw [ZFN hv hs h0]
      refine ZsL fun c=>?_
      unfold lF
      have b:Pb (n+1) false fun l=>(ZcW pv ob ns sub l).bind fun p=>L pv ob p.1 p.2:=Pb.bind (m:=n) (k:=1) (s:=false) (s':=false) (pg.1.pe _) (pg.1.pb _) pg.1.sf pg.2 (fun p=>ih _ _) fun p=>bn _ _
      split
      ·exact ZmJ (Zw3 _ _) (Zw4 _ _)
      split
      ·exact b
      split
      ·exact ZmJ (b.mono (Azb n)) (pg.1.bn.bind (s':=false) pg.1.sf fun p=>bn _ _)
      ·exact ZoC (by decide)
  exact ⟨⟨⟨sf ns sub,fun n=>pe n ns sub,fun n=>pb n ns sub⟩,bn ns sub⟩,st ns sub⟩
end
def vF (op:Bool->BL->Out JV) (c:UInt8):BL->Out JV :=
  if c=123 then op true
  else if c=91 then op false
  else if c=34 then tlP fun l=>(ZnW l).bind fun t=>okP ⟨5,t,[],.nil⟩
  else if c=110 then fun l=>(ZfD [110,117,108,108] l).bind fun _=>okP ⟨1,[],[],.nil⟩
  else if c=102 then fun l=>(ZfD [102,97,108,115,101] l).bind fun _=>okP ⟨2,[],[],.nil⟩
  else if c=116 then fun l=>(ZfD [116,114,117,101] l).bind fun _=>okP ⟨3,[],[],.nil⟩
  else if c=45\/ZdP c then fun l=>(Zid Zm1 l).bind fun t=>okP ⟨4,t,[],.nil⟩
  else Za1 20
def vP (op:Bool->BL->Out JV):BL->Out JV:=fun l=>(Zdy XJ l).bind fun _=>hdP (.err 24 []) (vF op)
theorem ZiY {op op':Bool->BL->Out JV} (h:∀ b c l,op b (c::l)=op' b (c::l)):Zig op=vP op':=by
  funext l
  show Zig op l=hdP _ _ (Za3 l)
  unfold Zig
  cases Za3 l with
  | nil=>rfl
  | cons c l1 =>
    show _=vF op' c (c::l1)
    unfold vF
    dsimp only
    split
    ·exact h true c l1
    split
    ·exact h false c l1
    split
    ·rfl
    split
    ·rfl
    split
    ·rfl
    split
    ·rfl
    split
    ·show _=(Zid Zm1 (c::l1)).bind _
     unfold Zid
     cases Zm1 (c::l1)<;>rfl
    ·rfl
def opP (pv:BL->Out JV) (ob:Bool):BL->Out JV:=tlP fun l=>(Zdy XJ l).bind fun _ l=>(L pv ob [] .nil l).bind fun p=>okP ⟨if ob then 7 else 6,[],p.1,p.2⟩
theorem Zoi {pv:BL->Out JV} (hv:Good false pv) (hs:St 1 pv) (ob:Bool) (c:UInt8) (l:BL):Zra pv ob (c::l)=opP pv ob (c::l):=by
  show (Zgs pv ob _ [] .nil (Za3 l)).bind _=(L pv ob [] .nil (Za3 l)).bind _
  unfold L
  rw [ZjV hv hs ob ((c::l).length+1) ((Za3 l).length+1)]
  ·rfl
  ·have:=(Zpt l).length_le;simp;omega
  ·omega
theorem Zwh {op:Bool->BL->Out JV} (ho:∀ b,Hf false (op b)) (hs:∀ b,St 1 (op b)):Good false (vP op)/\St 1 (vP op):=by
  have w1:=Zfe [110,117,108,108] (by decide)
  have w2:=Zfe [102,97,108,115,101] (by decide)
  have w3:=Zfe [116,114,117,101] (by decide)
  have s0:Good false (fun l=>(ZnW l).bind fun t=>okP (⟨5,t,[],.nil⟩:JV)):=by rw [ZnV];exact (ZAU none []).bind fun t=>Good.okP false _
  have hf:∀ c,Hf false (vF op c):=fun c=>by
    unfold vF
    refine Hf.ite (ho true) (Hf.ite (ho false) (Hf.ite s0.tl (Hf.ite ?_ (Hf.ite ?_ (Hf.ite ?_ (Hf.ite ?_ (Hf.fail (by decide))))))))
    ·exact (w1.1.bind fun _=>Good.okP false _).toHf
    ·exact (w2.1.bind fun _=>Good.okP false _).toHf
    ·exact (w3.1.bind fun _=>Good.okP false _).toHf
    ·exact (Zzz.got.bind fun _=>Good.okP false _).toHf
  have st:∀ c,St 1 (vF op c):=fun c=>by
    unfold vF
    refine St.ite (hs true) (St.ite (hs false) (St.ite (ZbM (k:=0) s0.sf.st) (St.ite ?_ (St.ite ?_ (St.ite ?_ (St.ite ?_ Za9))))))
    ·exact St.mono (St.bind (m:=0) w1.2 fun _=>Zhc _) (by simp)
    ·exact St.mono (St.bind (m:=0) w2.2 fun _=>Zhc _) (by simp)
    ·exact St.mono (St.bind (m:=0) w3.2 fun _=>Zhc _) (by simp)
    ·exact St.bind (k:=1) (m:=0) (Zoy ZAF) fun _=>Zhc _
  have g:Good false (hdP (.err 24 []) (vF op)):=Good.hd hf st fun c hc=>⟨20,by
    rcases ZfQ hc with rfl | rfl | rfl | rfl<;>rfl⟩
  exact ⟨Zfh.bind fun _=>g,St.mono (St.bind (k:=0) (m:=1) (Zjo _) fun _=>ZlE (fun a r h=>by cases h) st) (by omega)⟩
theorem Zgh:∀ n:Nat,Good false (Zbb n)/\St 1 (Zbb n)
  | 0=>by
    unfold Zbb
    rw [ZiY (op':=fun _=>Za1 23) fun b c l=>rfl]
    exact Zwh (fun _=>Hf.fail (by decide)) fun _=>Za9
  | n+1=>by
    obtain ⟨hv,hs⟩:=Zgh n
    have h0:Zbb n [] = .err 24 []:=by cases n<;>rfl
    unfold Zbb
    rw [ZiY (op':=opP (Zbb n)) fun b c l=>Zoi hv hs b c l]
    have lg:=fun ob=>Zxl hv hs h0 ob [] .nil
    exact Zwh (fun b=>(Zfh.bind fun _=>(lg b).1.bind fun p=>Good.okP false _).tl) fun b=>ZbM (k:=0) (Zfh.bind fun _=>(lg b).1.bind fun p=>Good.okP false _).sf.st
theorem Zv7 (n:Nat):Zbb n [] = .err 24 []:=by cases n<;>rfl
theorem ZyV (n:Nat):Zbb (n+1)=vP (opP (Zbb n)):=ZiY fun b c l=>Zoi (Zgh n).1 (Zgh n).2 b c l
theorem Zv8:Zbb 0=vP fun _=>Za1 23:=ZiY fun b c l=>rfl
def Nz {α:Type} (p:BL->Out α):Prop:=∀ l e r,p l = .err e r->20<=e/\e<=24
section
variable {α β:Type}
theorem Nz.bind {p:BL->Out α} {f:α->BL->Out β} (hp:Nz p) (hf:∀ a,Nz (f a)):Nz fun l=>(p l).bind f:=fun l e r h=>by
  dsimp only at h
  cases h1:p l with
  | ok a l1=>rw [h1] at h;exact hf a _ _ _ h
  | err k q=>rw [h1] at h;cases h;exact hp _ _ _ h1
theorem Nz.hd {e0:Out α} {f:UInt8->BL->Out α} (h0:fin e0) (hf:∀ c,Nz (f c)):Nz (hdP e0 f):=fun l e r h=>by
  rcases l with _ | ⟨c,l⟩
  ·rcases h0 with ⟨b,h0⟩ | h0<;>(rw [show hdP e0 f []=e0 from rfl,h0] at h;cases h)
   exact ⟨by decide,by decide⟩
  ·exact hf c _ _ _ h
theorem Nz.tl {g:BL->Out α} (hg:Nz g):Nz (tlP g):=fun l e r h=>by
  rcases l with _ | ⟨c,l⟩
  ·cases h;exact ⟨by decide,by decide⟩
  ·exact hg _ _ _ h
theorem Nz.ok (a:α):Nz (okP a):=fun l e r h=>by cases h
theorem Nz.fail {e:Nat} (he:20<=e/\e<=24):Nz (Za1 e:BL->Out α):=fun l k r h=>by
  cases l<;>cases h
  ·exact ⟨by decide,by decide⟩
  ·exact he
theorem Nz.ite {c:Prop} [Decidable c] {p q:BL->Out α} (hp:Nz p) (hq:Nz q):Nz (if c then p else q):=by split<;>assumption
theorem Nz.got {p:BL->Out α} (hp:Nz p):Nz (Zid p):=fun l e r h=>hp _ _ _ (Zh7 h)
end
theorem Nz.drop (P:UInt8->Bool):Nz (Zdy P):=fun l e r h=>by cases h
theorem ZlR:Nz Zay:=by rw [Zj3];exact Nz.hd (.inr rfl) fun c=>Nz.ite (Nz.drop _).tl (Nz.fail (by decide))
theorem ZE4:Nz Zm1:=by
  have h1:Nz ZE7:=fun l e r h=>by cases h
  have h2:Nz ZeE:=by rw [Zm2];exact Nz.hd (.inl ⟨_,rfl⟩) fun c=>Nz.ite (Nz.fail (by decide)) (Nz.ok _)
  have h3:Nz ZpU:=by rw [Zrq];exact Nz.hd (.inr rfl) fun c=>Nz.ite h2.tl ZlR
  have h4:Nz Zkx:=by rw [ZsR];exact Nz.hd (.inl ⟨_,rfl⟩) fun c=>Nz.ite ZlR.tl (Nz.ok _)
  have h6:Nz ZEW:=fun l e r h=>by cases h
  have h5:Nz ZoD:=by rw [ZxT];exact Nz.hd (.inl ⟨_,rfl⟩) fun c=>Nz.ite (h6.bind fun _=>ZlR).tl (Nz.ok _)
  rw [Zre]
  exact h1.bind fun _=>h3.bind fun _=>h4.bind fun _=>h5
theorem ZnE:∀ w:BL,Nz (ZfD w)
  | []=>Nz.ok ()
  | c::w=>by rw [ZrU];exact Nz.hd (.inr rfl) fun d=>Nz.ite (ZnE w).tl (Nz.fail (by decide))
theorem ZAO:∀ k n:Nat,Nz (ZiI k n)
  | 0,n=>Nz.ok n
  | k+1,n=>by
    rw [ZxH]
    refine Nz.hd (.inr rfl) fun c=>?_
    cases ZoU c with
    | some d=>exact (ZAO k _).tl
    | none=>exact Nz.fail (by decide)
theorem ZEP:Nz Zpm:=by
  rw [Zwq]
  refine Nz.hd (.inr rfl) fun c=>?_
  cases Zhi c with
  | some m=>exact (Nz.ok _).tl
  | none=>exact Nz.ite ((ZAO 4 0).bind fun n=>Nz.ok _).tl (Nz.fail (by decide))
theorem Zx3:∀ n lo hi:Nat,Nz (ZeO n lo hi)
  | 0,_,_=>Nz.ok ()
  | n+1,lo,hi=>by rw [Zs1];exact Nz.hd (.inr rfl) fun d=>Nz.ite (Zx3 n _ _).tl (Nz.fail (by decide))
theorem ZCL:Nz ZcD:=by rw [Zsf];exact Nz.hd (.inr rfl) fun c=>Nz.ite (Nz.fail (by decide)) (Zx3 _ _ _).tl
theorem ZkD:∀ (n:Nat) (p:Option Nat) (out l:BL) (e:Nat) (r:BL),ZdB n p out l = .err e r->20<=e/\e<=24
  | 0,_,_,_,_,_,h=>by cases h;exact ⟨by decide,by decide⟩
  | n+1,p,out,[],_,_,h=>by cases h;exact ⟨by decide,by decide⟩
  | n+1,p,out,c::l,e,r,h=>by
    rw [Ze5] at h
    split at h
    ·cases h;exact ⟨by decide,by decide⟩
    split at h
    ·cases h
    split at h
    ·cases ht:Zpm l with
     | err k q=>rw [ht] at h;cases h;exact ZEP _ _ _ ht
     | ok t q=>rw [ht] at h;exact ZkD n _ _ _ _ _ h
    split at h
    ·exact ZkD n _ _ _ _ _ h
    ·cases ht:ZcD (c::l) with
     | err k q=>rw [ht] at h;cases h;exact ZCL _ _ _ ht
     | ok t q=>rw [ht] at h;exact ZkD n _ _ _ _ _ h
theorem ZMu (p:Option Nat) (out:BL):Nz (T p out):=fun l e r h=>ZkD _ _ _ _ _ _ h
theorem ZCZ:Nz Zji:=by
  rw [Zsw]
  have g3:∀ nm:BL,Nz (hdP (.err 24 []) fun d=>if d=58 then tlP (okP nm) else Za1 20):=fun nm=>Nz.hd (.inr rfl) fun c=>Nz.ite (Nz.ok _).tl (Nz.fail (by decide))
  have g1:Nz fun l=>(ZnW l).bind fun nm l=>(Zdy XJ l).bind fun _=>hdP (.err 24 []) fun d=>if d=58 then tlP (okP nm) else Za1 20:=by
    rw [ZnV]
    exact (ZMu none []).bind fun nm=>(Nz.drop _).bind fun _=>g3 nm
  exact (Nz.drop _).bind fun _=>Nz.hd (.inr rfl) fun c=>Nz.ite g1.tl (Nz.fail (by decide))
theorem ZwS {pv:BL->Out JV} (hv:Nz pv) (ob:Bool) (ns:List BL) (sub:JL):Nz (ZcW pv ob ns sub):=by
  rw [Zsn]
  split
  ·exact ZCZ.bind fun nm=>hv.bind fun v=>(Nz.drop _).bind fun _=>Nz.ok _
  ·exact (Nz.drop _).bind fun _=>hv.bind fun v=>(Nz.drop _).bind fun _=>Nz.ok _
theorem Zrl {pv:BL->Out JV} (hv:Nz pv) (ob:Bool):∀ (m:Nat) (ns:List BL) (sub:JL),Nz (Zgs pv ob m ns sub)
  | 0,_,_,l,e,r,h=>by cases h;exact ⟨by decide,by decide⟩
  | m+1,ns,sub,l,e,r,h=>by
    unfold Zgs at h
    split at h
    ·cases h
    split at h
    ·exact ((ZwS hv ob ns sub).bind fun p=>Zrl hv ob m p.1 p.2) _ _ _ h
    split at h
    ·exact ((ZwS hv ob ns sub).bind fun p=>Zrl hv ob m p.1 p.2) _ _ _ h
    ·exact Nz.fail (by decide) _ _ _ h
theorem ZEI {op:Bool->BL->Out JV} (ho:∀ b,Nz (op b)):Nz (vP op):=by
  refine (Nz.drop _).bind fun _=>Nz.hd (.inr rfl) fun c=>?_
  unfold vF
  have s0:Nz (fun l=>(ZnW l).bind fun t=>okP (⟨5,t,[],.nil⟩:JV)):=by rw [ZnV];exact (ZMu none []).bind fun t=>Nz.ok _
  exact Nz.ite (ho true) (Nz.ite (ho false) (Nz.ite s0.tl (Nz.ite ((ZnE _).bind fun _=>Nz.ok _) (Nz.ite ((ZnE _).bind fun _=>Nz.ok _) (Nz.ite ((ZnE _).bind fun _=>Nz.ok _) (Nz.ite (ZE4.got.bind fun _=>Nz.ok _) (Nz.fail (by decide))))))))
theorem ZrW:∀ n:Nat,Nz (Zbb n)
  | 0=>by rw [Zv8];exact ZEI fun _=>Nz.fail (by decide)
  | n+1=>by
    rw [ZyV]
    exact ZEI fun b=>Nz.tl ((Nz.drop _).bind fun _=>Nz.bind (fun l e r h=>Zrl (ZrW n) b _ _ _ _ _ _ h) fun p=>Nz.ok _)
theorem Zof {l:BL} (h:l.length<=65536):Zer l=match Zbb 64 l with
    | .err e r=> .err e (l.length - r.length)
    | .ok v r=>match Za3 r with
      | []=> .ok v
      | c::r'=> .err 25 (l.length - (c::r').length):=by
  unfold Zer
  rw [if_neg (by omega)]
  rfl
theorem ZjQ {l:BL} (h:65536<l.length):Zer l = .err 5 65536:=by
  unfold Zer
  rw [if_pos h]
theorem Zzu {l:BL} {e k:Nat} (h:Zer l = .err e k):e=5\/(20<=e/\e<=25):=by
  by_cases hl:l.length<=65536
  ·rw [Zof hl] at h
   cases h1:Zbb 64 l with
   | err k q=>rw [h1] at h;cases h;have:=ZrW 64 _ _ _ h1;omega
   | ok v r =>
     rw [h1] at h
     simp only at h
     split at h
     ·cases h
     ·cases h;right;omega
  ·rw [ZjQ (by omega)] at h;cases h;exact .inl rfl
def ZMn (n:Nat):UInt8:=UInt8.ofNat (if n<10 then 48+n else 87+n)
def ZMo (c:UInt8):BL :=
  if c=34\/c=92 then [92,c]
  else if c=8 then [92,98] else if c=12 then [92,102] else if c=10 then [92,110] else if c=13 then [92,114] else if c=9 then [92,116]
  else if c.toNat<32 then [92,117,48,48,ZMn (c.toNat / 16),ZMn (c.toNat % 16)]
  else [c]
inductive Utf:BL->Prop where
  | nil:Utf []
  | cons {x l:BL}:Zdz x=true->Utf l->Utf (x++l)
def ZDV:JL->JL->JL
  | .nil,b=>b
  | .cons k t ns s r,b=> .cons k t ns s (ZDV r b)
theorem app_snoc (v:JV) (b:JL):∀ a:JL,ZDV (a.snoc v) b=ZDV a (.cons v.k v.t v.ns v.sub b)
  | .nil=>rfl
  | .cons _ _ _ _ r=>by simp only [JL.snoc,ZDV,app_snoc v b r]
theorem app_nil:∀ a:JL,ZDV a .nil=a
  | .nil=>rfl
  | .cons _ _ _ _ r=>by simp only [ZDV,app_nil r]
theorem Utf.app {a b:BL} (ha:Utf a) (hb:Utf b):Utf (a++b):=by
  induction ha with
  | nil=>exact hb
  | cons hx _ ih=>rw [Ayz];exact .cons hx ih
theorem Utf.one {x:BL} (h:Zdz x=true):Utf x:=by
  have:=Utf.cons h .nil
  rwa [Ayt] at this
theorem ZxG {c:UInt8} {d:Nat} (h:ZoU c=some d):d<16:=by
  unfold ZoU at h
  split at h
  ·cases h;omega
  split at h
  ·cases h;omega
  split at h
  ·cases h;omega
  ·cases h
theorem Zrt:∀ (k:Nat) {n m:Nat} {l r:BL},ZiI k n l = .ok m r->m<(n+1)*16 ^ k
  | 0,n,m,_,_,h=>by cases h;omega
  | k+1,n,m,[],_,h=>by cases h
  | k+1,n,m,c::l,r,h=>by
    unfold ZiI at h
    cases hd:ZoU c with
    | none=>simp only [hd] at h;cases h
    | some d =>
      simp only [hd] at h
      have h1:=Zrt k h
      have h2:=ZxG hd
      have h3:n*16+d+1<=(n+1)*16:=by omega
      have h4:(n*16+d+1)*16 ^ k<=((n+1)*16)*16 ^ k:=Aqz _ h3
      rw [Nat.pow_succ]
      have h5:(n+1)*16*16 ^ k=(n+1)*(16 ^ k*16):=by rw [Axg,Azd 16]
      omega
theorem Zz8 {n:Nat} (h:n<256):(UInt8.ofNat n).toNat=n:=by simp;omega
def ZoV:JL->Nat
  | .nil=>0
  | .cons _ _ _ sub rest=>1+ZoV sub+ZoV rest
theorem ZfK (l:BL):(Za3 l).length<=l.length:=(Zpt l).length_le
end Go.Js
namespace Go.Proofs.YtpjbjdheeemdiaaGreatDoor
open Go Go.Fw Go.Js
theorem ZkO {n:Int} (h0 : -2147483648<=n) (h1:n<=2147483647):IntKind.wrap .i32 n=n:=by
  unfold IntKind.wrap
  have hb:(2:Int) ^ IntKind.i32.bits=4294967296:=by decide
  have hb':(2:Int) ^ (IntKind.i32.bits - 1)=2147483648:=by decide
  have hs:IntKind.i32.signed=true:=rfl
  simp only [hb,hb',hs,Aqa]
  rcases Int.lt_or_le n 0 with h | h
  ·have:n % 4294967296=n+4294967296:=by omega
   rw [this,if_pos (by simp;omega)]
   omega
  ·have:n % 4294967296=n:=by omega
   rw [this,if_neg (by simp;omega)]
theorem ZCs {n:Int} (h0:0<=n) (h1:n<4294967296):IntKind.wrap .u32 n=n:=by
  unfold IntKind.wrap
  have hb:(2:Int) ^ IntKind.u32.bits=4294967296:=by decide
  have hs:IntKind.u32.signed=false:=rfl
  simp only [hb,hs,Aqb,Aqc,if_false]
  omega
theorem ZEV {n k:Nat} (hk:k<=20) (h:n*2 ^ k<2147483648):Zyy .i32 (n:Int) (k:Int)=((n*2 ^ k:Nat):Int):=by
  unfold Zyy
  rw [Aqu,show min k IntKind.i32.bits=k from Nat.min_eq_left (by show k<=32;omega)]
  rw [show (n:Int)*2 ^ k=((n*2 ^ k:Nat):Int) by push_cast;rfl,ZkO (by omega) (by omega)]
theorem ZNQ {a d:Nat} (ha:a*16<2147483648) (hd:d<16):orV .i32 ((a*16:Nat):Int) (d:Int)=((a*16+d:Nat):Int):=by
  unfold orV
  have hb:IntKind.i32.bits=32:=rfl
  rw [hb,BitVec.ofInt_natCast,BitVec.ofInt_natCast,BitVec.toNat_or,BitVec.toNat_ofNat,BitVec.toNat_ofNat,Awv (by omega),Awv (by omega)]
  have h1:a*16+d=a*16 ||| d:=by
    have:=Nat.shiftLeft_add_eq_or_of_lt (b:=d) (i:=4) (by omega) a
    rwa [Nat.shiftLeft_eq] at this
  rw [<- h1,ZkO (by omega) (by omega)]
theorem ZlD {N c:Nat} {d:Nat} (hN:N<65536) (hd:d<16) {x:Int} (hx:x=(d:Int)):orV .i32 (Zyy .i32 (N:Int) 4) (IntKind.wrap .i32 x)=((N*16+d:Nat):Int):=by
  subst hx
  rw [show ((4:Int))=((4:Nat):Int) from rfl,ZEV (by omega) (by omega),ZkO (by omega) (by omega)]
  exact ZNQ (by omega) hd
theorem Ztw {n k:Nat} (hk:k<=20):Zzg .i32 (n:Int) (k:Int)=((n / 2 ^ k:Nat):Int):=by
  unfold Zzg
  rw [Aqu,show min k IntKind.i32.bits=k from Nat.min_eq_left (by show k<=32;omega)]
  have:(2:Int) ^ k=((2 ^ k:Nat):Int):=by push_cast;rfl
  rw [this,Int.fdiv_eq_ediv_of_nonneg _ (Int.natCast_nonneg _)]
  rfl
theorem w8 (n:Nat):IntKind.wrap .u8 (n:Int)=((n % 256:Nat):Int):=by rw [ZvW];rfl
theorem ZMb {a:Nat} (ha:a<256):ZyB .u8 (a:Int) 63=((a % 64:Nat):Int):=by
  have:∀ b:Fin 256,ZyB .u8 ((b.val:Nat):Int) 63=((b.val % 64:Nat):Int):=by decide +kernel
  exact this ⟨a,ha⟩
theorem ZLN {a:Nat} (ha:a<64):orV .u8 128 (a:Int)=((128+a:Nat):Int):=by
  have:∀ b:Fin 64,orV .u8 128 ((b.val:Nat):Int)=((128+b.val:Nat):Int):=by decide +kernel
  exact this ⟨a,ha⟩
theorem ZLM {a:Nat} (ha:a<32):orV .u8 192 (a:Int)=((192+a:Nat):Int):=by
  have:∀ b:Fin 32,orV .u8 192 ((b.val:Nat):Int)=((192+b.val:Nat):Int):=by decide +kernel
  exact this ⟨a,ha⟩
theorem ZLL {a:Nat} (ha:a<16):orV .u8 224 (a:Int)=((224+a:Nat):Int):=by
  have:∀ b:Fin 16,orV .u8 224 ((b.val:Nat):Int)=((224+b.val:Nat):Int):=by decide +kernel
  exact this ⟨a,ha⟩
theorem ZLK {a:Nat} (ha:a<8):orV .u8 240 (a:Int)=((240+a:Nat):Int):=by
  have:∀ b:Fin 8,orV .u8 240 ((b.val:Nat):Int)=((240+b.val:Nat):Int):=by decide +kernel
  exact this ⟨a,ha⟩
theorem Zya {n:Nat} (h:n<256):Value.int .u8 (n:Int)=bv (UInt8.ofNat n):=by
  unfold bv;rw [Zz8 h]
theorem Zgx (n:Nat):Value.int .u8 (orV .u8 128 (ZyB .u8 (IntKind.wrap .u8 (n:Int)) 63))=bv (UInt8.ofNat (128+n % 64)):=by
  rw [w8,ZMb (by omega),ZLN (by omega),show n % 256 % 64=n % 64 by omega]
  exact Zya (by omega)
theorem Zt4 (c:UInt8):(48<=c.toNat/\c.toNat<=57/\ZoU c=some (c.toNat - 48))\/(¬ (48<=c.toNat/\c.toNat<=57)/\97<=c.toNat/\c.toNat<=102/\ZoU c=some (c.toNat - 87)) \/
    (¬ (48<=c.toNat/\c.toNat<=57)/\¬ (97<=c.toNat/\c.toNat<=102)/\65<=c.toNat/\c.toNat<=70/\ZoU c=some (c.toNat - 55)) \/
    (¬ (48<=c.toNat/\c.toNat<=57)/\¬ (97<=c.toNat/\c.toNat<=102)/\¬ (65<=c.toNat/\c.toNat<=70)/\ZoU c=none):=by
  unfold ZoU
  by_cases h1:48<=c.toNat/\c.toNat<=57
  ·rw [if_pos h1];exact .inl ⟨h1.1,h1.2,rfl⟩
  rw [if_neg h1]
  by_cases h2:97<=c.toNat/\c.toNat<=102
  ·rw [if_pos h2];exact .inr (.inl ⟨h1,h2.1,h2.2,rfl⟩)
  rw [if_neg h2]
  by_cases h3:65<=c.toNat/\c.toNat<=70
  ·rw [if_pos h3];exact .inr (.inr (.inl ⟨h1,h2,h3.1,h3.2,rfl⟩))
  ·rw [if_neg h3];exact .inr (.inr (.inr ⟨h1,h2,h3,rfl⟩))
theorem ZpX (k n:Nat) (c:UInt8) (l:BL):ZiI (k+1) n (c::l)=match ZoU c with
    | some d=>ZiI k (n*16+d) l
    | none=> .err 22 (c::l):=rfl
theorem ZsJ {h:Zc} {R:Nat} {s:ByteArray} {l:BL} (hr:Rd h R s l) {K:Int->HP} {P:Value->HP}
    (hok:∀ (n:Nat) r h',ZiI 4 0 l = .ok n r->Rd h' R s r->Upd (· = R) h h'->sz h'=sz h->K n h') (herr:OnE h R s (· = R) (ZiI 4 0 l) P):Zbi (At R) K P h:=by
  unfold Zbi Zec
  refine Za (Za ?_)
  refine Zv (fun p h'=>∃ (N k:Nat) (l':BL),p.1=N/\p.2.1=((4 - k:Nat):Int)/\k<=4/\N<16 ^ (4 - k)/\ZiI k N l'=ZiI 4 0 l/\Rd h' R s l'/\Upd (· = R) h h'/\sz h'=sz h) (fun p _=>(4 - p.2.1).toNat) ⟨0,4,l,rfl,rfl,by omega,by decide,rfl,hr,Upd.refl _ _,rfl⟩ ?_
  rintro ⟨n1,s5,u⟩ h2 ⟨N,k,l2,e1,e2,hk,hN,q2,r2,u2,z2⟩
  dsimp only at e1 e2 ⊢
  subst e1 e2
  refine Zt (fun hlt=>?_) fun hge=>?_
  ·obtain ⟨k,rfl⟩:∃ k',k=k'+1:=⟨k - 1,by omega⟩
   have hN2:N<65536:=by
     have:16 ^ (4 - (k+1))<=16 ^ 4:=Nat.pow_le_pow_right (by decide) (by omega)
     omega
   refine Zaa r2 (Za ?_)
   refine Z0 (fun p h'=>h'=h2/\∃ c l3 d,l2=c::l3/\ZoU c=some d/\p.1=((N*16+d:Nat):Int)) ?_ ?_
   ·rintro ⟨n,u⟩ h3 ⟨rfl,c,l3,d,rfl,hd,hn⟩
    dsimp only at hn ⊢
    subst hn
    refine Zdq r2 fun h4 r4 u4 z4=>?_
    rw [Yt (by omega) (by omega)]
    refine ⟨⟨N*16+d,k,l3,rfl,by omega,by omega,?_,?_,r4,u2.trans u4,z4.trans z2⟩,by omega⟩
    ·have h16:=ZxG hd
     rw [show 4 - k=(4 - (k+1))+1 by omega,Nat.pow_succ]
     omega
    ·rw [<- q2,ZpX,hd]
   ·
    have bad:(∀ c l3,l2=c::l3->ZoU c=none)->∀ e' r,(Za1 22 l2:Out Nat) = .err e' r->r=l2->P (ZfH e' (s.size - r.length)) h2:=fun hno e' r he hr'=>by
      refine herr e' r h2 ?_ u2
      rw [<- q2,<- he]
      rcases l2 with _ | ⟨c,l3⟩
      ·rfl
      ·rw [ZpX,hno c l3 rfl];rfl
    refine Z0 (fun p h'=>h'=h2/\p.1=decide (48<=ZbX l2/\ZbX l2<=57)) ?_ ?_
    ·rintro ⟨b,u⟩ h3 ⟨rfl,hb⟩
     dsimp only at hb ⊢
     subst hb
     rcases l2 with _ | ⟨c,l3⟩
     ·refine Zm (by simp [ZbX]) ?_
      have hf:=bad fun c l3 e=>by cases e
      refine Zm (by simp [ZbX]) (Zm (by simp [ZbX]) (ZbK r2 rfl hf))
     ·have hz:ZbX (c::l3)=(c.toNat:Int):=rfl
      generalize ZbX (c::l3)=z at hz ⊢
      subst hz
      rcases Zt4 c with ⟨a1,a2,hd⟩ | ⟨a0,a1,a2,hd⟩ | ⟨a0,b0,a1,a2,hd⟩ | ⟨a0,b0,c0,hd⟩
      ·refine Zn (by simp;omega) ⟨by decide,Za ⟨rfl,c,l3,_,rfl,hd,ZlD (c:=0) hN2 (by omega) ?_⟩⟩
       rw [ZqI (by omega) (by omega)];omega
      ·refine Zm (by simp;omega) (Zn (by simp;omega) (Zh (Zn (by simp;omega) ⟨by decide,Za ⟨rfl,c,l3,_,rfl,hd,ZlD (c:=0) hN2 (by omega) ?_⟩⟩)))
       rw [ZqI (n:=(c.toNat:Int) - 97) (by omega) (by omega),ZqI (by omega) (by omega)];omega
      ·refine Zm (by simp;omega) (Zm (by simp;omega) (Zn (by simp;omega) (Zh (Zn (by simp;omega) ⟨by decide,Za ⟨rfl,c,l3,_,rfl,hd,ZlD (c:=0) hN2 (by omega) ?_⟩⟩))))
       rw [ZqI (n:=(c.toNat:Int) - 65) (by omega) (by omega),ZqI (by omega) (by omega)];omega
      ·have hf:=bad fun c' l3' e=>by cases e;exact hd
       refine Zm (by simp;omega) (Zt (fun h97=>Zh (Zm (by simp;omega) (Zn (by simp;omega) (Zh (Zm (by simp;omega) (ZbK r2 rfl hf)))))) fun h97=>Zt (fun h65=>Zh (Zm (by simp;omega) (ZbK r2 rfl hf))) fun h65=>ZbK r2 rfl hf)
    ·refine Zt (fun h48=>Zh ⟨rfl,?_⟩) fun h48=>⟨rfl,?_⟩
     ·simp;omega
     ·simp;omega
  ·obtain rfl:k=0:=by omega
   refine Za (hok N l2 h2 ?_ r2 u2 z2)
   rw [<- q2];rfl
theorem ZnO (n:Nat):(Zhr n).length<=4:=by
  unfold Zhr
  split
  ·exact Awt rfl
  split
  ·exact Awt rfl
  split
  ·exact Awt rfl
  ·exact Awt rfl
theorem Zl3 {h:Zc} {base:Nat} {x:Sl} {l:BL} {n:Nat} (hb:Buf h base x l) (hbase:base<=sz h) (hn:n<1114112) (hsur:n<55296\/57344<=n) (hs:l.length+4<=1000000000) {K:Sl->HP}
    (hk:∀ x' h',Buf h' base x' (l++Zhr n)->Upd (fun k=>base<=k) h h'->sz h<=sz h'->K x' h'):Xs x n K h:=by
  unfold Xs Za6
  have go:∀ (new:BL) (cells:List Value) (m:Nat) (K':Sl->HP),Zhr n=new->cells=new.map bv->m=new.length->(∀ x' h',K' x' h'↔K x' h') ->
      newC h cells 5 fun b h1=>rdS ⟨some ⟨b,0,none⟩,m,m⟩ 1 h1 fun nw=>Fw.app 5 1 1 [.int .u8 0] x m nw h1 K':=by
    intro new cells m K' hu hc hm hK
    have h4:(Zhr n).length<=4:=ZnO n
    rw [hu] at h4
    refine ZMk new m hc hm.symm (by omega) fun b h1 hr e1 _=>hr.rd ?_
    have hx:=hb.congr (h':=h1) fun k hk hl=>Zq e1 hl
    have hsz:=e1.size
    refine hx.app (by have:sz h1=h1.size:=rfl;have:sz h=h.size:=rfl;omega) hm rfl (by omega) fun x' h6 hx6 u6 z6=>(hK _ _).2 (hk x' h6 (by rw [hu];exact hx6) ((e1.upd _).trans u6) (by have:sz h1=h1.size:=rfl;have:sz h=h.size:=rfl;omega))
  have w:IntKind.wrap .u32 (n:Int)=n:=ZCs (by omega) (by omega)
  rw [w]
  refine Zt (fun h1=>?_) fun h1=>?_
  ·refine go [UInt8.ofNat n] _ 1 _ (by unfold Zhr;rw [if_pos (by omega)]) ?_ rfl fun _ _=>Iff.rfl
   rw [w8,show n % 256=n by omega,Zya (by omega)];rfl
  ·unfold Y4 XK
   rw [w]
   refine Za (Zh (Zt (fun h2=>⟨by decide,?_⟩) fun h2=>?_))
   ·refine go [UInt8.ofNat (192+n / 64),UInt8.ofNat (128+n % 64)] _ 2 _ (by unfold Zhr;rw [if_neg (by omega),if_pos (by omega)]) ?_ rfl fun _ _=>Iff.rfl
    rw [Zgx,show ((6:Int))=((6:Nat):Int) from rfl,Ztw (by omega),w8,show n / 2 ^ 6 % 256=n / 64 by omega,ZLM (by omega),Zya (by omega)];rfl
   ·refine Z0 (fun p h'=>h'=h/\p.1=decide (n<=65535)) ?_ ?_
    ·rintro ⟨b,u⟩ h3 ⟨rfl,hb3⟩
     dsimp only at hb3 ⊢
     subst hb3
     refine Zt (fun h4=>⟨by decide,by decide,?_⟩) fun h4=>Zn (by simp;omega) (Zh (Zn (by simp;omega) ⟨by decide,by decide,by decide,?_⟩))
     ·refine go [UInt8.ofNat (224+n / 4096),UInt8.ofNat (128+n / 64 % 64),UInt8.ofNat (128+n % 64)] _ 3 _ (by unfold Zhr;rw [if_neg (by omega),if_neg (by omega),if_pos (by omega)]) ?_ rfl fun _ _=>Iff.rfl
      rw [Zgx,show ((6:Int))=((6:Nat):Int) from rfl,show ((12:Int))=((12:Nat):Int) from rfl,Ztw (k:=12) (by omega),Ztw (k:=6) (by omega),Zgx,w8,show n / 2 ^ 12 % 256=n / 4096 by omega,show n / 2 ^ 6=n / 64 by rfl,ZLL (by omega),Zya (by omega)];rfl
     ·refine go [UInt8.ofNat (240+n / 262144),UInt8.ofNat (128+n / 4096 % 64),UInt8.ofNat (128+n / 64 % 64),UInt8.ofNat (128+n % 64)] _ 4 _ (by unfold Zhr;rw [if_neg (by omega),if_neg (by omega),if_neg (by omega)]) ?_ rfl fun _ _=>Iff.rfl
      rw [Zgx,show ((6:Int))=((6:Nat):Int) from rfl,show ((12:Int))=((12:Nat):Int) from rfl,show ((18:Int))=((18:Nat):Int) from rfl,Ztw (k:=18) (by omega),Ztw (k:=12) (by omega),Ztw (k:=6) (by omega),Zgx,Zgx,w8,show n / 2 ^ 18 % 256=n / 262144 by omega,show n / 2 ^ 6=n / 64 by rfl,show n / 2 ^ 12=n / 4096 by rfl,ZLK (by omega),Zya (by omega)];rfl
    ·refine Zh (Zt (fun h5=>⟨rfl,?_⟩) fun h5=>Zn (by simp;omega) (Zh ⟨rfl,?_⟩))
     ·simp;omega
     ·simp;omega
theorem Zif {h:Zc} {B:Nat} {T:TypeId} {out:BL} (hb:Bld h B T out) {n:Nat} (hn:n<1114112) (hsur:n<55296\/57344<=n) {n0:Int} (hn0:n0=n) (hs:out.length<900000000) {K:Int->Value->HP} (hk:∀ i h',Bld h' B T (out++Zhr n)->Upd (fun k=>B<=k) h h'->K i .nilIface h'):Xd (At B) n0 K h:=by
  subst hn0
  unfold Xd ZaF
  refine Za (Zl1 hb fun h1 x b1 u1 c1 hx z1=>Zu (rL (Zb c1 rfl) (Za (Zu (rL (Zb c1 rfl) ?_)))))
  refine Zl3 hx (by have:=b1.lt;omega) hn hsur (by omega) fun x' h6 hx6 u6 z6=>?_
  exact ZrI b1.1 c1 u6 hx6 fun h9 b9 u9 c9=>Zu (rL (Zb c9 rfl) (Za (hk _ h9 b9 (u1.trans u9))))
end Go.Proofs.YtpjbjdheeemdiaaGreatDoor
namespace Go.Js
open Go
theorem Zwt:∀ b:Fin 256,2<=nRb ⟨⟨b⟩⟩->nRb ⟨⟨b⟩⟩<=4/\(loR ⟨⟨b⟩⟩=128\/loR ⟨⟨b⟩⟩=144\/loR ⟨⟨b⟩⟩=160)/\loR ⟨⟨b⟩⟩<=hiR ⟨⟨b⟩⟩:=by decide +kernel
theorem ZES:∀ c:UInt8,2<=nRb c->nRb c<=4/\(loR c=128\/loR c=144\/loR c=160)/\loR c<=hiR c:=fun ⟨⟨b⟩⟩=>Zwt b
theorem ZLS (c:UInt8):nRb c<=4:=by
  by_cases h:2<=nRb c
  ·exact (ZES c h).1
  ·omega
theorem Zrb:∀ {lo hi:Nat} {r t:BL},okC lo hi (r++t)=(okC lo hi r&&(if r=[] then okC lo hi t else okC 128 191 t))
  | lo,hi,[],t=>by simp [okC]
  | lo,hi,d::r,t=>by
    simp only [Ayp,okC,Zrb (r:=r)]
    by_cases hr:r=[]
    ·subst hr;simp [okC,Aze]
    ·simp [hr,Aze]
theorem ZmW {x t:BL} (hx:x≠[]) (h:Zdz (x++t)=true):ZmX x=true:=by
  rcases x with _ | ⟨c,r⟩
  ·exact absurd rfl hx
  ·simp only [Ayp,Zdz,Awn,decide_eq_true_eq,Awe] at h
   rw [Zrb,Awn] at h
   simp only [ZmX,Awn,decide_eq_true_eq]
   exact ⟨⟨h.1.1,by omega⟩,h.2.1⟩
theorem ZCS {x:BL} (h:ZmX x=true):x.length<=4/\(Zdz x=false->x.length<=3):=by
  rcases x with _ | ⟨c,r⟩
  ·cases h
  ·simp only [ZmX,Awn,decide_eq_true_eq] at h
   have:=ZLS c
   refine ⟨by simp;omega,fun hn=>?_⟩
   have:r.length+1≠nRb c:=fun e=>by simp [Zdz,e,h.2,h.1.1] at hn
   simp;omega
def ZAK:List BL:=[[128,128,128],[144,128,128],[160,128,128]]
theorem ZFc {x:BL} (h:ZmX x=true) (hn:Zdz x=false):∃ low,low∈ZAK/\∃ n,x.length<n/\n<=4/\Zdz (x++low.take (n - x.length))=true:=by
  rcases x with _ | ⟨c,r⟩
  ·cases h
  simp only [ZmX,Awn,decide_eq_true_eq] at h
  obtain ⟨⟨h0,hl⟩,hc⟩:=h
  have hne:r.length+1≠nRb c:=fun e=>by simp [Zdz,e,hc,h0] at hn
  have h2:2<=nRb c:=by omega
  obtain ⟨h4,hlo,hh⟩:=ZES c h2
  have key:∀ low:BL,low.length=3->(if r=[] then okC (loR c) (hiR c) (low.take (nRb c - (r.length+1))) else okC 128 191 (low.take (nRb c - (r.length+1))))=true->Zdz (c::r++low.take (nRb c - (c::r).length))=true:=fun low hlen hok=>by
    simp only [Ayp,Zdz,Awn,decide_eq_true_eq,Awe,Ayo,Aqj]
    refine ⟨⟨h0,by omega⟩,?_⟩
    rw [Zrb,hc,Aqa]
    exact hok
  have cont:∀ m,okC 128 191 (([128,128]:BL).take m)=true:=fun m=>by
    rcases m with _ | _ | _ | m<;>rfl
  have ok3:∀ (a:UInt8) (m:Nat),(loR c<=a.toNat/\a.toNat<=hiR c)->okC (loR c) (hiR c) (([a,128,128]:BL).take m)=true:=fun a m ha=>by
    rcases m with _ | m
    ·rfl
    ·rw [Ayn]
     simp only [okC,Awn,decide_eq_true_eq]
     exact ⟨ha,cont m⟩
  have ok9:∀ (m:Nat),okC 128 191 (([128,128,128]:BL).take m)=true:=fun m=>by
    rcases m with _ | _ | _ | _ | m<;>rfl
  by_cases hr:r=[]
  ·rcases hlo with e | e | e
   ·exact ⟨[128,128,128],by simp [ZAK],nRb c,by simp;omega,h4,key _ rfl (by rw [if_pos hr];exact ok3 128 _ (by rw [e] at hh ⊢;exact ⟨by decide,hh⟩))⟩
   ·exact ⟨[144,128,128],by simp [ZAK],nRb c,by simp;omega,h4,key _ rfl (by rw [if_pos hr];exact ok3 144 _ (by rw [e] at hh ⊢;exact ⟨by decide,hh⟩))⟩
   ·exact ⟨[160,128,128],by simp [ZAK],nRb c,by simp;omega,h4,key _ rfl (by rw [if_pos hr];exact ok3 160 _ (by rw [e] at hh ⊢;exact ⟨by decide,hh⟩))⟩
  ·exact ⟨[128,128,128],by simp [ZAK],nRb c,by simp;omega,h4,key _ rfl (by rw [if_neg hr];exact ok9 _)⟩
theorem Zmy {x:BL} (h:Zdz x=true):Lib.validD x=true:=by
  rcases x with _ | ⟨c,r⟩
  ·cases h
  ·have ht:(c::r).take (nRb c)=c::r:=by
     simp only [Zdz,Awn,decide_eq_true_eq] at h
     exact Awd (by simp;omega)
   have h2:=(ZcA c r).2 (by rw [ht];exact h)
   have h3:=((ZcA c r).1 h2).1
   rw [Lib.validD_step _ (by simp),if_neg h2,h3]
   have:(c::r).drop (nRb c)=[]:=by
     simp only [Zdz,Awn,decide_eq_true_eq] at h
     exact Azf (by simp;omega)
   rw [this];rfl
theorem Zuf (s:ByteArray) (pos:Nat) (hp:pos<s.size) (fuel:Nat):1<=Lib.runeCountFrom s (fuel+1) pos:=by
  unfold Lib.runeCountFrom;rw [if_pos hp];omega
theorem Zx0 (c:UInt8) (r:BL):(Lib.decodeL (c::r)).2<=r.length+1:=by
  by_cases hb:(Lib.decodeL (c::r)).1=65533/\(Lib.decodeL (c::r)).2=1
  ·omega
  ·obtain ⟨e,ho⟩:=(ZcA c r).1 hb
   rw [e]
   rcases hn:nRb c with _ | n
   ·omega
   ·rw [hn,Ayn] at ho
    simp only [Zdz,Awn,decide_eq_true_eq,Ayo] at ho
    omega
theorem Zqj {c:UInt8} {r:BL}:Lib.runeCount ⟨(c::r).toArray⟩=1↔(Lib.decodeL (c::r)).2=r.length+1:=by
  have hsz:(⟨(c::r).toArray⟩:ByteArray).size=r.length+1:=rfl
  have hw:=Zx0 c r
  unfold Lib.runeCount
  rw [hsz]
  have e:Lib.runeCountFrom ⟨(c::r).toArray⟩ (r.length+1) 0=1+Lib.runeCountFrom ⟨(c::r).toArray⟩ r.length (Lib.decodeL (c::r)).2:=by
    conv=>lhs;unfold Lib.runeCountFrom
    rw [hsz,if_pos (Nat.succ_pos _),Awb]
    rfl
  rw [e]
  by_cases hl:(Lib.decodeL (c::r)).2<r.length+1
  ·obtain ⟨f,hf⟩:∃ f,r.length=f+1:=⟨r.length - 1,by have:=Lib.decodeL_width (c::r);omega⟩
   have:=Zuf ⟨(c::r).toArray⟩ (Lib.decodeL (c::r)).2 (by rw [hsz];exact hl) f
   rw [hf] at hl ⊢
   omega
  ·rw [Lib.runeCountFrom_end _ _ _ (by rw [hsz];exact hl)]
   omega
theorem ZgJ {x:BL}:(Lib.validD x=true/\Lib.runeCount ⟨x.toArray⟩=1)↔Zdz x=true:=by
  rcases x with _ | ⟨c,r⟩
  ·constructor
   ·rintro ⟨_,h⟩;cases h
   ·intro h;cases h
  constructor
  ·rintro ⟨hv,h1⟩
   rw [Zqj] at h1
   rw [Lib.validD_step _ (by simp)] at hv
   split at hv
   ·cases hv
   ·rename_i hb
    obtain ⟨a,b⟩:=(ZcA c r).1 hb
    rw [Awd (by simp;omega)] at b
    exact b
  ·intro h
   have hl:r.length+1=nRb c:=by
     simp only [Zdz,Awn,decide_eq_true_eq] at h
     exact h.1.2
   refine ⟨Zmy h,Zqj.2 ?_⟩
   have ht:(c::r).take (nRb c)=c::r:=Awd (by simp;omega)
   rw [((ZcA c r).1 ((ZcA c r).2 (by rw [ht];exact h))).1,hl]
theorem Zpe:∀ (n:Nat) (l:BL),l.length<=n->(Lib.validD l=true↔Utf l)
  | 0,l,h=>by
    have:l=[]:=Aqr (by omega)
    subst this
    exact ⟨fun _=> .nil,fun _=>rfl⟩
  | n+1,[],_=>⟨fun _=> .nil,fun _=>rfl⟩
  | n+1,c::r,h=>by
    rw [Lib.validD_step _ (by simp)]
    have hw:=Lib.decodeL_width (c::r)
    simp only [Aqj] at hw h
    by_cases hb:(Lib.decodeL (c::r)).1=65533/\(Lib.decodeL (c::r)).2=1
    ·rw [if_pos hb]
     refine ⟨fun h=>(by cases h),fun hu=>?_⟩
     exfalso
     generalize hl:c::r=l at hu
     cases hu with
     | nil=>cases hl
     | cons hx hu =>
       rename_i x l'
       rcases x with _ | ⟨d,x⟩
       ·cases hx
       ·cases hl
        refine (ZcA c _).2 ?_ hb
        have he:x.length+1=nRb c:=by
          simp only [Zdz,Awn,decide_eq_true_eq] at hx
          exact hx.1.2
        rw [<- he]
        have:((c::(x++l')).take (x.length+1))=c::x:=by simp
        show Zdz ((c::(x++l')).take (x.length+1))=true
        rw [this];exact hx
    ·rw [if_neg hb]
     obtain ⟨e,ho⟩:=(ZcA c r).1 hb
     rw [e]
     have hd:((c::r).drop (nRb c)).length<=n:=by
       have:1<=nRb c:=by rw [<- e];exact (by omega)
       simp;omega
     rw [Zpe n _ hd]
     constructor
     ·intro hu
      have:=Utf.cons ho hu
      rwa [Azg] at this
     ·intro hu
      generalize hl:c::r=l at hu
      cases hu with
      | nil=>cases hl
      | cons hx hu =>
        rename_i x l'
        rcases x with _ | ⟨d,x⟩
        ·cases hx
        ·cases hl
         have he:x.length+1=nRb c:=by
           simp only [Zdz,Awn,decide_eq_true_eq] at hx
           exact hx.1.2
         rw [<- he]
         simpa using hu
theorem Zv9 (l:BL):Lib.validD l=true↔Utf l:=Zpe _ l (Aqo _)
theorem Zwa {x:BL} (h:ZmX x=true):Lib.validD x=Zdz x:=by
  cases ho:Zdz x with
  | true=>exact Zmy ho
  | false =>
    cases hv:Lib.validD x with
    | false=>rfl
    | true =>
      exfalso
      have hu:=(Zv9 x).1 hv
      cases hu with
      | nil=>cases h
      | cons hx hu =>
        rename_i y l
        have hp:=h
        rcases y with _ | ⟨c,y⟩
        ·cases hx
        ·have he:y.length+1=nRb c:=by
           simp only [Zdz,Awn,decide_eq_true_eq] at hx
           exact hx.1.2
         simp only [Ayp,ZmX,Awn,decide_eq_true_eq,Awe] at hp
         have:l=[]:=Aqr (by omega)
         subst this
         rw [Ayt] at ho
         rw [hx] at ho;cases ho
end Go.Js
namespace Go.Proofs.YtpjbjdheeemdiaaGreatDoor
open Go Go.Fw Go.Js
abbrev UB (R B:Nat):Nat->Prop:=fun k=>k=R\/B<=k
theorem toU (c:UInt8):(c.toNat:Int).toNat.toUInt8=c:=by simp
abbrev ZCI:BL:=[34,92,47,98,102,110,114,116]
theorem ZCJ:∀ c:UInt8,Zhi c=none->Lib.indexByte ZCI c<0:=ZMd (by decide +kernel)
theorem Zzf:∀ c:UInt8,(Zhi c).isSome=true->0<=Lib.indexByte ZCI c/\(⟨#[34,92,47,8,12,10,13,9]⟩:ByteArray)[(Lib.indexByte ZCI c).toNat]?=Zhi c:=ZMd (by decide +kernel)
theorem Zps (a b:ByteArray):Zch a b=decide (a=b):=by
  unfold Zch
  rw [ByteArray.toList_eq,ByteArray.toList_eq]
  by_cases h:a=b
  ·rw [h];simp
  ·rw [decide_eq_false h,beq_eq_false_iff_ne]
   intro e
   exact h (ByteArray.ext (Array.toList_inj.1 e))
theorem Zjt.extractN {s:ByteArray} {n:Nat} {l:BL} (h:Zjt s n l) {k:Nat} (hk:k<=l.length):s.extract n (n+k)=Zk (l.take k):=by
  have:=h.extract (h.dropK hk) (Nat.le_add_right _ _)
  rw [this]
  congr 1
  unfold upto
  rw [Azh,show l.length - (l.length - k)=k by omega]
theorem Zfi (l:BL):(Zk l).size=l.length:=rfl
theorem Zq7 {l:BL} {K:Bool->HP} {h:Zc} (hk:K (Zdn l).isSome h):ZaB (Zk l) (ByteArray.mk #[92,117]) K h:=by
  unfold ZaB Zdi Xa XQ
  have h2:(ByteArray.mk #[92,117]).size=2:=rfl
  rw [h2,Zfi]
  rcases l with _ | ⟨a,_ | ⟨b,l⟩⟩
  ·exact Zm (by simp) (Zh hk)
  ·exact Zm (by simp) (Zh hk)
  ·refine Zn (by simp;omega) ⟨by omega,by omega,by rw [Zfi];simp;omega,?_⟩
   have e:(Zk (a::b::l)).extract 0 2=Zk [a,b]:=by
     apply ByteArray.ext
     simp [Zk]
   show Yx (Zch ((Zk (a::b::l)).extract 0 2) _) _
   rw [e]
   have e2:Zch (Zk [a,b]) (ByteArray.mk #[92,117])=(Zdn (a::b::l)).isSome:=by
     rw [ZhT]
     rw [Zps]
     by_cases hc:a=92/\b=117
     ·rw [if_pos hc,hc.1,hc.2];exact decide_eq_true rfl
     ·rw [if_neg hc]
      refine decide_eq_false fun e=>hc ?_
      have:=congrArg (fun x:ByteArray=>x.data.toList) e
      simpa [Zk] using this
   rw [e2]
   exact Zh (Zh hk)
theorem ZrB {l o r:BL} (h:ZrC l = .ok o r):o.length+r.length<=l.length/\r <:+l:=by
  rcases l with _ | ⟨c,l⟩
  ·cases h
  ·rw [Zgv] at h
   cases hm:Zhi c with
   | some m=>rw [hm] at h;cases h;exact ⟨by simp;omega,Aye _ _⟩
   | none =>
     rw [hm] at h
     simp only at h
     split at h
     ·rw [Zit] at h
      obtain ⟨n,l1,h1,h2⟩:=Xb h
      obtain ⟨a1,b1⟩:=Ze1 4 h1
      cases hb:(if 55296<=n/\n<56320 then Zdn l1 else none) with
      | none =>
        simp only [hb] at h2
        cases h2
        have:=ZnO (Zmp n)
        exact ⟨by simp;omega,Zbx b1⟩
      | some l2 =>
        simp only [hb] at h2
        have hb':Zdn l1=some l2:=by
          split at hb
          ·exact hb
          ·cases hb
        have e:=ZeC hb'
        obtain ⟨m,l3,h3,h4⟩:=Xb h2
        obtain ⟨a3,b3⟩:=Ze1 4 h3
        have hl1:l1.length=l2.length+2:=by rw [e];rfl
        split at h4
        ·injection h4 with e1 e2
         subst e1 e2
         have:=ZnO (65536+(n - 55296)*1024+(m - 56320))
         have s2:l3 <:+l1:=by rw [e];exact Zbx (Zbx b3)
         exact ⟨by simp;omega,Zbx (s2.trans b1)⟩
        ·cases h4
         have:=ZnO (Zmp n)
         exact ⟨by simp;omega,Zbx b1⟩
     ·cases h
theorem ZrA {h:Zc} {R B:Nat} {T:TypeId} {s:ByteArray} {l out:BL} (hr:Rd h R s l) (hb:Bld h B T out) (hRB:R<B) (hs:out.length<900000000) {K:HP} {P:Value->HP}
    (hok:∀ o r h',ZrC l = .ok o r->Rd h' R s r->Bld h' B T (out++o)->Upd (UB R B) h h'->K h') (herr:OnE h R s (UB R B) (ZrC l) P):Zaq (At R) (At B) K P h:=by
  unfold Zaq ZcR
  have uR:∀ {a b:Zc},Upd (· = R) a b->Upd (UB R B) a b:=fun u=>u.mono fun k _ hk=> .inl hk
  have uB:∀ {a b:Zc},Upd (fun k=>B<=k) a b->Upd (UB R B) a b:=fun u=>u.mono fun k _ hk=> .inr hk
  have keepR:∀ {a b:Zc} {q:BL},Rd a R s q->Upd (fun k=>B<=k) a b->Rd b R s q:=fun r u=>r.upd u (by omega)
  have keepB:∀ {a b:Zc} {o:BL},Bld a B T o->Upd (· = R) a b->Bld b B T o:=fun r u=>r.upd u (fun k hk=>by subst hk;exact hRB)
  refine Zaa hr (Za ?_)
  refine Z0 (fun _ h'=>h'=h/\(l=[]\/∃ c l',l=c::l'/\Zhi c=none)) ?_ ?_
  ·rintro ⟨⟩ h1 ⟨rfl,hl⟩
   refine Z0 (fun _ h'=>h'=h1/\∃ l',l=117::l') ?_ ?_
   ·rintro ⟨⟩ h2 ⟨rfl,l1,rfl⟩
    have hesc:ZrC (117::l1)=ZEJ l1:=by rw [Zgv,ZE8];simp
    refine Zdq hr fun h3 r3 u3 z3=>?_
    refine ZsJ r3 (fun n l2 h4 hh r4 u4 z4=>Za ?_) fun e r h4 he u4=>herr e r h4 (by rw [hesc,Zit,he];rfl) (uR (u3.trans u4))
    have hn:n<65536:=by have:=Zrt 4 hh;omega
    have b4:=keepB (keepB hb u3) u4
    have u24:=uR (u3.trans u4)
    refine Z0 (fun _ h'=>ZrC (117::l1) = .ok (Zhr (Zmp n)) l2/\Rd h' R s l2/\Bld h' B T out/\Upd (UB R B) h2 h') ?_ ?_
    ·rintro ⟨⟩ h5 ⟨q5,r5,b5,u5⟩
     refine Z0 (fun p h'=>h'=h5/\p.1=(Zmp n:Int)) ?_ ?_
     ·rintro ⟨m,u⟩ h6 ⟨rfl,hm⟩
      dsimp only at hm ⊢
      refine Zif b5 (n:=Zmp n) ?_ ?_ hm hs fun i h7 b7 u7=>hok _ _ h7 q5 (keepR r5 u7) b7 (u5.trans (uB u7))
      ·unfold Zmp;split<;>omega
      ·unfold Zmp;split<;>omega
     ·refine Zt (fun h1=>Zt (fun h2=>Za ⟨rfl,?_⟩) fun h2=>⟨rfl,?_⟩) fun h1=>⟨rfl,?_⟩
      ·unfold Zmp;rw [if_pos (by omega)];rfl
      ·unfold Zmp;rw [if_neg (by omega)]
      ·unfold Zmp;rw [if_neg (by omega)]
    ·
     refine Z0 (fun p h'=>h'=h4/\p.1=(decide (55296<=n/\n<56320)&&(Zdn l2).isSome)) ?_ ?_
     ·rintro ⟨b,u⟩ h5 ⟨rfl,hb5⟩
      dsimp only at hb5 ⊢
      subst hb5
      by_cases hhi:55296<=n/\n<56320
      case neg =>
        refine Zm (by simp [hhi]) ⟨?_,r4,b4,u24⟩
        rw [hesc,Zit,hh];simp [hhi]
      cases hbu:Zdn l2 with
      | none =>
        refine Zm (by simp) ⟨?_,r4,b4,u24⟩
        rw [hesc,Zit,hh];simp [hhi,hbu]
      | some l3 =>
        have hq:ZrC (117::l1)=(ZiI 4 0 l3).bind fun m l4=>if 56320<=m/\m<57344 then .ok (Zhr (65536+(n - 55296)*1024+(m - 56320))) l4 else .ok (Zhr (Zmp n)) l2:=by
          rw [hesc,Zit,hh];simp [hhi,hbu]
        have e:=ZeC hbu
        refine Zn (by simp [hhi]) (Zic r4 fun was hwas=>Za ?_)
        refine ZCR r4 (m:=2) rfl (by rw [e];simp) fun h6 r6 u6 z6=>?_
        have r6':Rd h6 R s l3:=by rw [e] at r6;exact r6
        refine ZsJ r6' (fun m l4 h7 hm r7 u7 z7=>Za ?_) fun e' r h7 he u7=>herr e' r h7 (by rw [hq,he];rfl) (u24.trans (uR (u6.trans u7)))
        have hm4:m<65536:=by have:=Zrt 4 hm;omega
        have back:¬ (56320<=m/\m<57344)->Ze (At R) fun b62 o63=>st h7 b62 (o63+1) (.int .i64 (was:Int)) fun h64=>ZrC (117::l1) = .ok (Zhr (Zmp n)) l2/\Rd h64 R s l2/\Bld h64 B T out/\Upd (UB R B) h2 h64:=fun hlo =>
          Zsk r7 rfl hwas fun h8 r8 u8 z8=>⟨by rw [hq,hm];simp [hlo],r8,keepB (keepB (keepB b4 u6) u7) u8,u24.trans (uR ((u6.trans u7).trans u8))⟩
        refine Zt (fun h1=>Zt (fun h2=>⟨by decide,?_⟩) fun h2=>back (by omega)) fun h1=>back (by omega)
        have hv:IntKind.wrap .i32 ((IntKind.wrap .i32 ((65536:Int)+(Zyy .i32 (IntKind.wrap .i32 ((n:Int) - 55296)) 10)))+(IntKind.wrap .i32 ((m:Int) - 56320)))=((65536+(n - 55296)*1024+(m - 56320):Nat):Int):=by
          rw [ZkO (n:=(n:Int) - 55296) (by omega) (by omega),show (n:Int) - 55296=((n - 55296:Nat):Int) by omega,show ((10:Int))=((10:Nat):Int) from rfl,ZEV (by omega) (by omega),
            ZkO (n:=(m:Int) - 56320) (by omega) (by omega),ZkO (n:=65536+_) (by omega) (by omega),ZkO (by omega) (by omega)]
          omega
        refine Zif (keepB (keepB b4 u6) u7) (n:=65536+(n - 55296)*1024+(m - 56320)) (by omega) (by omega) hv hs fun i h8 b8 u8=>hok _ _ h8 ?_ (keepR r7 u8) b8 ((u24.trans (uR (u6.trans u7))).trans (uB u8))
        rw [hq,hm]
        have:56320<=m/\m<57344:=by omega
        simp [this]
     ·refine Zt (fun h1=>Zt (fun h2=>?_) fun h2=>⟨rfl,by simp;omega⟩) fun h1=>⟨rfl,by simp;omega⟩
      refine Zsj r4 (Zic r4 fun p hp=>?_)
      have hlen:=hp.len
      refine ⟨by omega,by omega,by omega,?_⟩
      have e:s.extract (p:Int).toNat (s.size:Int).toNat=Zk l2:=by
        rw [Aqu,Aqu,<- hlen,hp.extractN (Aqo _),List.take_length]
      rw [e]
      refine ⟨((Zdn l2).isSome,()),Zq7 ⟨rfl,rfl⟩,rfl,?_⟩
      have:55296<=n/\n<56320:=by omega
      simp [this]
   ·refine Zjk 117 (fun hn=>ZbK (α:=BL) hr rfl fun e' r he hr'=>herr e' r h1 ?_ (Upd.refl _ _)) fun l' e=>⟨rfl,l',e⟩
    rw [<- he]
    rcases hl with rfl | ⟨c,l',rfl,hm⟩
    ·rfl
    ·rw [Zgv,hm]
     simp only
     rw [if_neg (hn c l' rfl)];rfl
  ·refine Zrr ?_
   rcases l with _ | ⟨c,l'⟩
   ·exact Za (Zm (decide_eq_false (by decide)) ⟨rfl,.inl rfl⟩)
   ·rw [show (ZbX (c::l')).toNat.toUInt8=c from toU c]
    cases hm:Zhi c with
    | none =>
      have key:=ZCJ c hm
      exact Za (Zm (decide_eq_false (Int.not_le.2 key)) ⟨rfl,.inr ⟨c,l',rfl,hm⟩⟩)
    | some m =>
      obtain ⟨k0,k1⟩:=Zzf c (by rw [hm];rfl)
      rw [hm] at k1
      refine Za ?_
      refine Zn (decide_eq_true k0) (Zq4 hr (fun _=>?_) fun h0=>by cases h0)
      refine ⟨m,k0,k1,?_⟩
      refine ZkN hb rfl hs fun h2 b2 u2=>?_
      refine Zdq (keepR hr u2) fun h3 r3 u3 z3=>hok [m] l' h3 ?_ r3 (keepB b2 u3) ((uB u2).trans (uR u3))
      rw [Zgv,hm]
theorem Zj4 {x:BL} (hx:x.length<=1000000) {K:Int->HP} {h:Zc} (hk:∀ h',Ext h h'->K (Lib.runeCount (Zk x)) h'):Y9 (Zk x) K h:=⟨by rw [Zfi];omega,hk⟩
theorem ZhY {x:BL} (hx:x.length<=1000000) {K:Bool->HP} {h:Zc} (ht:ZaN h) (hk:∀ h',Ext h h'->K (Lib.validD x) h'):Z6 (Zk x) K h:=⟨ht,by rw [Zfi];omega,by simpa using hk⟩
theorem ZoJ {x y:BL} (hx:x.length+y.length<=1000000) {K:ByteArray->Prop} (hk:K (Zk (x++y))):ZFA (Zk x) (Zk y) K:=by
  refine ⟨by rw [Zfi,Zfi];omega,?_⟩
  have:Zk x++Zk y=Zk (x++y):=by
    apply ByteArray.ext
    simp [Zk]
  rw [this];exact hk
theorem ZnZ {x:BL} {n:Nat} (hn:n<=x.length) {m:Int} (hm:m=n) {K:ByteArray->Prop} (hk:K (Zk (x.take n))):Zze (Zk x) 0 m K:=by
  subst hm
  refine ⟨by omega,by omega,by rw [Zfi];omega,?_⟩
  have:(Zk x).extract (0:Int).toNat (n:Int).toNat=Zk (x.take n):=by
    apply ByteArray.ext
    simp [Zk]
  rw [this];exact hk
def ZgK (i:Nat):BL:=ZAK.getD i []
theorem ZC3 {low:BL} (h:low∈ZAK):∃ i,i<3/\ZgK i=low:=by
  simp only [ZAK,Awr,Azi,or_false] at h
  rcases h with rfl | rfl | rfl
  ·exact ⟨0,by omega,rfl⟩
  ·exact ⟨1,by omega,rfl⟩
  ·exact ⟨2,by omega,rfl⟩
theorem Zxk {i:Nat} (h:i<3):(ZgK i).length=3:=by
  obtain rfl | rfl | rfl:i=0\/i=1\/i=2:=by omega
  all_goals rfl
def ZAh (x:BL) (i n:Nat):Prop:=∀ k,x.length<k->k<n->Zdz (x++(ZgK i).take (k - x.length))=false
theorem ZrK {x:BL} (hne:x≠[]) (h4:x.length<=4) {h:Zc} (ht:ZaN h) {K:Bool->HP} (hk:∀ h',Ext h h'->K (ZmX x) h'):ZdM (Zk x) K h:=by
  unfold ZdM ZgW
  have hlen:0<x.length:=List.length_pos_iff.2 hne
  have hsz:((Zk x).size:Int)=x.length:=rfl
  refine YX fun h1 c1 e1 z1=>?_
  have yes:∀ {t:BL} {h':Zc},Ext h1 h'->Zdz (x++t)=true->K true h':=fun {t h'} e ho=>by
    have:=hk h' (e1.trans e)
    rwa [ZmW hne ho] at this
  refine Zv (fun p h'=>∃ i:Nat,p.1=i/\i<=3/\Ext h1 h'/\∀ j,j<i->ZAh x j 5) (fun p _=>(3 - p.1).toNat) ⟨0,rfl,by omega,Ext.refl _,fun j hj=>by omega⟩ ?_
  rintro ⟨s11,u⟩ h2 ⟨i,hi,hi3,e2,hno⟩
  dsimp only at hi ⊢
  subst hi
  refine Zt (fun hlt=>?_) fun hge=>?_
  ·have hi:i<3:=by omega
   have c2:=Zl c1 e2
   have hstr:(Zk (ZgK i))=[ByteArray.mk #[128,128,128],ByteArray.mk #[144,128,128],ByteArray.mk #[160,128,128]].getD i (ByteArray.mk #[]):=by
     obtain rfl | rfl | rfl:i=0\/i=1\/i=2:=by omega
     all_goals rfl
   have hcell:ZbA (0+i*1) (obj h2 h.size)=some (.string (Zk (ZgK i))):=by
     rw [hstr]
     obtain rfl | rfl | rfl:i=0\/i=1\/i=2:=by omega
     ·exact Zb c2 rfl
     ·exact Zb c2 rfl
     ·exact Zb c2 rfl
   refine ZlC (n:=i) rfl (by omega) (rS hcell (Za ?_))
   have hll:=Zxk hi
   refine Zv (fun p h'=>∃ k:Nat,p.1=k/\x.length<=k/\k<=4/\Ext h1 h'/\ZAh x i k) (fun p _=>(4 - p.1).toNat) ⟨x.length,rfl,Aqo _,h4,e2,fun k h1 h2=>by omega⟩ ?_
   rintro ⟨k6,u2⟩ h3 ⟨k,hk6,hk0,hk4,e3,hno3⟩
   dsimp only at hk6 ⊢
   subst hk6
   have ht3:ZaN h3:=ht.ext (e1.trans e3)
   refine Zt (fun hlt4=>?_) fun hge4=>?_
   ·rw [hsz,Yt (by omega) (by omega)]
    refine ZnZ (n:=k - x.length) (by omega) (by omega) (ZoJ (by simp;omega) ?_)
    have hl9:(x++(ZgK i).take (k - x.length)).length<=1000000:=by simp;omega
    have step:∀ {h':Zc},Ext h3 h'->Zdz (x++(ZgK i).take (k - x.length))=false->Zi (IntKind.wrap .i64 ((k:Int)+1)) fun k17=>(∃ k_1:Nat,k17=k_1/\x.length<=k_1/\k_1<=4/\Ext h1 h'/\ZAh x i k_1)/\(4 - k17).toNat<(4 - (k:Int)).toNat:=fun {h'} e ho=>by
      refine Za ?_
      rw [Yt (by omega) (by omega)]
      refine ⟨⟨k+1,rfl,by omega,by omega,e3.trans e,fun q q1 q2=>?_⟩,by omega⟩
      rcases Aqd q k with h | h
      ·exact hno3 q q1 h
      ·rw [show q=k by omega];exact ho
    refine Zj4 hl9 fun h5 e5=>Za (ZaX (fun h1'=>ZhY hl9 (ht3.ext e5) fun h6 e6=>?_) fun hn1=>?_)
    ·cases hv:Lib.validD (x++(ZgK i).take (k - x.length)) with
     | true=>exact Zgt (yes (e3.trans (e5.trans e6)) (ZgJ.1 ⟨hv,by have:Lib.runeCount (Zk (x++(ZgK i).take (k - x.length)))=1:=by omega
                                                                   exact this⟩))
     | false =>
       refine Ze7 (step (e5.trans e6) ?_)
       cases ho:Zdz (x++(ZgK i).take (k - x.length)) with
       | false=>rfl
       | true=>rw [(ZgJ.2 ho).1] at hv;cases hv
    ·refine step e5 ?_
     cases ho:Zdz (x++(ZgK i).take (k - x.length)) with
     | false=>rfl
     | true=>exact absurd (by have:=(ZgJ.2 ho).2;show ((Lib.runeCount (Zk _):Nat):Int)=1;rw [this];rfl) hn1
   ·obtain rfl:k=4:=by omega
    have next:∀ {h':Zc},Ext h3 h'->(x.length<4->Zdz (x++(ZgK i).take (4 - x.length))=false)->(∃ i_1:Nat,IntKind.wrap .i64 ((i:Int)+1)=i_1/\i_1<=3/\Ext h1 h'/\∀ j,j<i_1->ZAh x j 5)/\(3 - IntKind.wrap .i64 ((i:Int)+1)).toNat<(3 - (i:Int)).toNat:=fun {h'} e ho=>by
      rw [Yt (by omega) (by omega)]
      refine ⟨⟨i+1,rfl,by omega,e3.trans e,fun j hj=>?_⟩,by omega⟩
      rcases Aqd j i with h | h
      ·exact hno j h
      ·obtain rfl:j=i:=by omega
       intro q q1 q2
       rcases Aqd q 4 with h | h
       ·exact hno3 q q1 h
       ·obtain rfl:q=4:=by omega
        exact ho (by omega)
    rw [hsz]
    refine Zt (fun hlt=>?_) fun hge=>next (Ext.refl _) fun h=>by omega
    have e4:(x++ZgK i).take 4=x++(ZgK i).take (4 - x.length):=by
      rw [List.take_append,Awd (by omega)]
    have hl9:(x++(ZgK i).take (4 - x.length)).length<=1000000:=by simp;omega
    refine ZoJ (by omega) (ZnZ (n:=4) (by simp;omega) rfl ?_)
    rw [e4]
    refine ZhY hl9 ht3 fun h5 e5=>?_
    cases hv:Lib.validD (x++(ZgK i).take (4 - x.length)) with
    | false =>
      refine Ze7 (next e5 fun _=>?_)
      cases ho:Zdz (x++(ZgK i).take (4 - x.length)) with
      | false=>rfl
      | true=>rw [(ZgJ.2 ho).1] at hv;cases hv
    | true =>
      refine Zgt (ZoJ (by omega) (ZnZ (n:=4) (by simp;omega) rfl ?_))
      rw [e4]
      refine Zj4 hl9 fun h6 e6=>ZaX (fun h1'=>yes (e3.trans (e5.trans e6)) (ZgJ.1 ⟨hv,?_⟩)) fun hn1=>next (e5.trans e6) fun _=>?_
      ·have:Lib.runeCount (Zk (x++(ZgK i).take (4 - x.length)))=1:=by omega
       exact this
      ·cases ho:Zdz (x++(ZgK i).take (4 - x.length)) with
       | false=>rfl
       | true=>exact absurd (by have:=(ZgJ.2 ho).2;show ((Lib.runeCount (Zk _):Nat):Int)=1;rw [this];rfl) hn1
  ·obtain rfl:i=3:=by omega
   have ht2:ZaN h2:=ht.ext (e1.trans e2)
   have fin:∀ h',Ext h2 h'->K (Zdz x) h':=fun h' e=>by
     have:=hk h' (e1.trans (e2.trans e))
     cases ho:Zdz x with
     | true=>rwa [ZmW (t:=[]) hne (by rw [Ayt];exact ho)] at this
     | false =>
       cases hp:ZmX x with
       | false=>rwa [hp] at this
       | true =>
         exfalso
         obtain ⟨low,hm,n,n1,n2,n3⟩:=ZFc hp ho
         obtain ⟨i,i3,rfl⟩:=ZC3 hm
         have:=hno i i3 n n1 (by omega)
         rw [n3] at this;cases this
   refine ZhY (by omega) ht2 fun h5 e5=>?_
   cases hv:Lib.validD x with
   | false =>
     refine Ze7 ?_
     have:=fin h5 e5
     cases ho:Zdz x with
     | false=>rwa [ho] at this
     | true=>rw [(ZgJ.2 ho).1] at hv;cases hv
   | true =>
     refine Zgt (Zj4 (by omega) fun h6 e6=>Zh ?_)
     have:=fin h6 (e5.trans e6)
     cases ho:Zdz x with
     | true =>
       rw [ho] at this
       have h1:Lib.runeCount (Zk x)=1:=(ZgJ.2 ho).2
       rw [h1];exact this
     | false =>
       rw [ho] at this
       have h1:¬ Lib.runeCount (Zk x)=1:=fun h1=>by
         have:=ZgJ.1 ⟨hv,h1⟩
         rw [ho] at this;cases this
       have h2:(((Lib.runeCount (Zk x):Nat):Int) ==1)=false:=by
         rw [beq_eq_false_iff_ne];omega
       rw [h2];exact this
theorem ZsT {h:Zc} {R:Nat} {s:ByteArray} {l:BL} (hr:Rd h R s l) {e:Int} {n:Int} (hn:n<s.size) {K:HP} {P:Value->HP} (hp:P (.iface 160 (.agg #[.int .i64 e,.int .i64 n])) h):Zp (At R) e n K P h:=by
  unfold Zp Za0
  exact Zsj hr (Zm (by simp;omega) hp)
theorem ZzX {h:Zc} {R:Nat} {s:ByteArray} {l:BL} (hr:Rd h R s l) {e:Int} {n:Int} (hn:(s.size:Int)<=n) {K:HP} {P:Value->HP} (hp:P (ZfH 24 s.size) h):Zp (At R) e n K P h:=by
  unfold Zp Za0
  exact Zsj hr (Zn (by simp;omega) (Zsj hr hp))
theorem Ztx {h:Zc} {R B:Nat} {T:TypeId} {s:ByteArray} {l out:BL} (hr:Rd h R s l) (hb:Bld h B T out) (ht:ZaN h) (hne:l≠[]) (hR:9<=R) (hRB:R<B) (hs:out.length<800000000) {K:HP} {P:Value->HP}
    (hok:∀ x r h',Zid ZcD l = .ok x r->Rd h' R s r->Bld h' B T (out++x)->Upd (UB R B) h h'->K h') (herr:OnE h R s (UB R B) (Zid ZcD l) P):ZaD (At R) (At B) K P h:=by
  unfold ZaD Zdl
  have hll:=hr.len
  have errOf:∀ {e:Nat} {r:BL},ZcD l = .err e r->Zid ZcD l = .err e r:=fun he=>by unfold Zid;rw [he];rfl
  have part:∀ {k:Nat},k<l.length+1->1<=k->∃ d,l.take k=l.take (k - 1)++[d]/\l=l.take (k - 1)++d::l.drop k:=fun {k} hk h1=>by
    have hd:l.drop (k - 1)=l[k - 1]::l.drop k:=by
      have:=Ayl (l:=l) (i:=k - 1) (by omega)
      rw [this,show k - 1+1=k by omega]
    refine ⟨l[k - 1],?_,?_⟩
    ·have:l.take (k - 1+1)=l.take (k - 1)++[l[k - 1]]:=by rw [Ayu,Ayb (by omega)];rfl
     rw [show k - 1+1=k by omega] at this
     exact this
    ·rw [<- hd,Azg]
  refine Za ?_
  refine Zv (fun p h'=>∃ k:Nat,p.1=k/\1<=k/\k<=4/\k - 1<=l.length/\(l.take (k - 1)=[]\/(ZmX (l.take (k - 1))=true/\Zdz (l.take (k - 1))=false))/\Ext h h') (fun p _=>(5 - p.1).toNat) ⟨1,rfl,by omega,by omega,by omega,.inl rfl,Ext.refl _⟩ ?_
  rintro ⟨k1,u⟩ h2 ⟨k,hk,hk1,hk4,hkl,hpre,e2⟩
  dsimp only at hk ⊢
  subst hk
  have r2:=hr.ext e2
  refine Z0 (fun _ h'=>h'=h2/\k<=l.length) ?_ ?_
  ·rintro ⟨⟩ h3 ⟨rfl,hk5⟩
   obtain ⟨d,ed,el⟩:=part (by omega) hk1
   refine Zsj r2 (Zic r2 fun n hn=>Zic r2 fun n' hn'=>?_)
   have hnn:n'=n:=by have:=hn.len;have:=hn'.len;omega
   subst hnn
   have hlen:=hn.len
   rw [Yt (by omega) (by omega)]
   refine ⟨by omega,by omega,by omega,?_⟩
   have ex:s.extract (n':Int).toNat ((n':Int)+k).toNat=Zk (l.take k):=by
     rw [show ((n':Int)+k).toNat=n'+k by omega,Aqu]
     exact hn.extractN hk5
   rw [ex]
   have htl:(l.take k).length=k:=by rw [Ayo];omega
   refine Z0 (fun _ h'=>ZmX (l.take k)=true/\Ext h h') ?_ ?_
   ·rintro ⟨⟩ h4 ⟨hp4,e4⟩
    refine ZhY (by omega) (ht.ext e4) fun h5 e5=>?_
    rw [Zwa hp4]
    have r5:=hr.ext (e4.trans e5)
    cases ho:Zdz (l.take k) with
    | true =>
      refine Zgt (ZqH (hb.congr fun b _ hl=>Zq (e4.trans e5) hl) (by rw [Zfi];omega) fun h6 b6 u6=>?_)
      refine Zic (r5.upd u6 (by omega)) fun n6 hn6=>?_
      have hn6l:=hn6.len
      refine Zsk (r5.upd u6 (by omega)) (n:=n6+k) (by rw [Yt (by omega) (by omega)];rfl) (hn6.dropK hk5) fun h7 r7 u7 z7=>?_
      have hq:Zid ZcD l = .ok (l.take k) (l.drop k):=by
        have:ZcD (l.take k++l.drop k) = .ok () (l.drop k):=ZwE ho
        unfold Zid
        rw [Azg] at this
        rw [this]
        simp only [Out.bind_ok]
        congr 1
        unfold upto
        rw [Azh,show l.length - (l.length - k)=k by omega]
      refine hok _ _ h7 hq r7 ?_ ?_
      ·have:=b6.upd (B:=B) u7 (fun q hq=>by subst hq;exact hRB)
       simpa [Zk] using this
      ·exact (((e4.trans e5).upd _).trans (u6.mono fun q _ hq=> .inr hq)).trans (u7.mono fun q _ hq=> .inl hq)
    | false =>
      refine Ze7 (Za ?_)
      rw [Yt (by omega) (by omega)]
      have h3:=(ZCS hp4).2 ho
      refine ⟨⟨k+1,rfl,by omega,by omega,by omega,.inr ?_,e4.trans e5⟩,by omega⟩
      rw [show k+1 - 1=k by omega]
      exact ⟨hp4,ho⟩
   ·refine ZrK (by intro e;rw [e] at htl;simp at htl;omega) (by omega) (ht.ext e2) fun h4 e4=>?_
    cases hp4:ZmX (l.take k) with
    | true=>exact Zm rfl ⟨rfl,e2.trans e4⟩
    | false =>
      refine Zn rfl (Zic (r2.ext e4) fun n4 hn4=>?_)
      have hn4l:=hn4.len
      rw [Yt (n:=(n4:Int)+k) (by omega) (by omega),Yt (by omega) (by omega)]
      refine ZsT (r2.ext e4) (by omega) ?_
      have hq:ZcD l = .err 22 (d::l.drop k):=by
        conv=>lhs;rw [el]
        refine ZwG ?_ (by rw [<- ed];exact hp4)
        rcases hpre with h | h
        ·exact .inl h
        ·exact .inr h
      have:=herr 22 _ h4 (errOf hq) ((e2.trans e4).upd _)
      unfold ZfH at this
      have hnum:((s.size - (d::l.drop k).length:Nat):Int)=(n4:Int)+k - 1:=by
        simp only [Aqj,Azh];omega
      rw [hnum] at this
      exact this
  ·refine Zic r2 fun n hn=>Zsj r2 ?_
   have hnl:=hn.len
   rw [Yt (by omega) (by omega)]
   refine Zt (fun hgt=>Zsj r2 (ZzX r2 (Int.le_refl _) ?_)) fun hle=>⟨rfl,by omega⟩
   have hl9:l.take (k - 1)=l:=Awd (by omega)
   rw [hl9] at hpre
   have hp:=hpre.resolve_left hne
   have:=herr 24 [] h2 (errOf (ZwF hp.1 hp.2)) (e2.upd _)
   simpa using this
def TP (out l:BL):Out BL:=Ziu (l.length+1) out l
theorem ZrO {n:Nat} {out l:BL} (h:l.length<n):Ziu n out l=TP out l:=by
  unfold TP
  rw [(ZnT n l h).1,(ZnT (l.length+1) l (Azc _)).1]
  exact Ze4 _ _ _ _ _ h (Azc _)
theorem ZDJ (out:BL) (c:UInt8) (l:BL):TP out (c::l) =
    if c.toNat<32 then .err 22 (c::l)
    else if c=34 then .ok out l
    else if c=92 then (ZrC l).bind fun o l2=>TP (out++o) l2
    else if c.toNat<128 then TP (out++[c]) l
    else (Zid ZcD (c::l)).bind fun x l2=>TP (out++x) l2:=by
  show Ziu ((c::l).length+1) out (c::l)=_
  rw [ZjG]
  have e1:((ZrC l).bind fun o l2=>Ziu (c::l).length (out++o) l2)=(ZrC l).bind fun o l2=>TP (out++o) l2:=by
    cases h:ZrC l with
    | err e r=>rfl
    | ok o r=>exact ZrO (by have:=(ZrB h).2.length_le;simp;omega)
  have e2:((ZcD (c::l)).bind fun _ l2=>Ziu (c::l).length (out++upto (c::l) l2) l2)=(Zid ZcD (c::l)).bind fun x l2=>TP (out++x) l2:=by
    unfold Zid
    cases h:ZcD (c::l) with
    | err e r=>rfl
    | ok o r=>exact ZrO (by have:=(Zeo h).1;simp at this ⊢;omega)
  rw [e1,e2,ZrO (n:=(c::l).length) (l:=l) (by simp)]
theorem Zpo {h:Zc} {R:Nat} {s:ByteArray} {c0:UInt8} {l:BL} (hr:Rd h R s (c0::l)) (ht:ZaN h) (hR:9<=R) {K:ByteArray->HP} {P:Value->HP}
    (hok:∀ t r h',ZnW l = .ok t r->Rd h' R s r->Upd (· = R) h h'->K (Zk t) h') (herr:OnE h R s (· = R) (ZnW l) P):XI (At R) K P h:=by
  unfold XI ZdV
  have hll:=hr.len
  have hRs:=hr.lt
  refine Zdq hr fun h1 r1 u1 z1=>YX fun h2 c2 e2 z2=>?_
  have hB:h1.size=sz h:=z1
  have r2:=r1.ext e2
  have b2:Bld h2 h1.size 188 []:=⟨.inl rfl,.pointer none,⟨none,0,0⟩,c2,.inl rfl,Buf.nil _ _⟩
  have hRB:R<h1.size:=by rw [hB];exact hRs
  have t2:ZaN h2:=(ht.upd u1 fun k hk=>by subst hk;exact hR).ext e2
  have low:∀ {a:Zc},Upd (UB R h1.size) h2 a->Upd (· = R) h a:=fun {a} u=>UT u1 (UN e2 u) fun k hk=>by
    rcases hk with rfl | hk
    ·exact .inl rfl
    ·right;rw [hB] at hk;exact hk
  refine Zv (fun _ h'=>∃ (l' out:BL),Rd h' R s l'/\Bld h' h1.size 188 out/\ZaN h'/\TP out l'=ZnW l/\out.length+l'.length<=65536/\Upd (UB R h1.size) h2 h') (fun _ h'=>left h' R) ⟨l,[],r2,b2,t2,rfl,by simp at hll ⊢;omega,Upd.refl _ _⟩ ?_
  rintro ⟨⟩ h3 ⟨l3,out,r3,b3,t3,q3,n3,u3⟩
  have keepR:∀ {a b:Zc} {q:BL},Rd a R s q->Upd (fun k=>h1.size<=k) a b->Rd b R s q:=fun r u=>r.upd u (by omega)
  have keepB:∀ {a b:Zc} {o:BL},Bld a h1.size 188 o->Upd (· = R) a b->Bld b h1.size 188 o:=fun r u=>r.upd u (fun k hk=>by subst hk;exact hRB)
  have tU:∀ {b:Zc},Upd (UB R h1.size) h3 b->ZaN b:=fun u=>t3.upd u fun k hk=>by rcases hk with rfl | hk<;>omega
  have er:∀ {e:Nat} {r:BL} {h':Zc},TP out l3 = .err e r->Upd (UB R h1.size) h3 h'->P (ZfH e (s.size - r.length)) h':=fun he u=>herr _ _ _ (by rw [<- q3];exact he) (low (u3.trans u))
  refine Zaa r3 (Za ?_)
  refine Z0 (fun p h'=>h'=h3/\p.1=decide (l3=[]\/ZbX l3<32)) ?_ ?_
  ·rintro ⟨b,u⟩ h4 ⟨rfl,hb⟩
   dsimp only at hb ⊢
   subst hb
   rcases l3 with _ | ⟨c,l3⟩
   ·refine Zn (by simp) (ZbK (α:=BL) r3 rfl fun e' r he hr'=>er ?_ (Upd.refl _ _))
    rw [<- he];rfl
   have hz:ZbX (c::l3)=(c.toNat:Int):=rfl
   have hq:=ZDJ out c l3
   rw [hz]
   by_cases h32:c.toNat<32
   ·refine Zn (by simp;omega) (ZbK (α:=BL) r3 rfl fun e' r he hr'=>er ?_ (Upd.refl _ _))
    rw [hq,if_pos h32,<- he];rfl
   rw [if_neg h32] at hq
   refine Zm (by simp;omega) (Zh (ZaX (fun h34=>?_) fun h34=>Zh (ZaX (fun h92=>?_) fun h92=>Zh (Zt (fun h128=>?_) fun h128=>?_))))
   ·have hc:c=34:=Zko (d:=34) h34
    rw [if_pos hc] at hq
    refine Zdq r3 fun h5 r5 u5 z5=>ZqT (keepB b3 u5) fun h6 u6=>?_
    exact hok out l3 h6 (by rw [<- q3];exact hq) (keepR r5 u6) (low ((u3.trans (u5.mono fun k _ hk=> .inl hk)).trans (u6.mono fun k _ hk=> .inr hk)))
   all_goals have n34:c≠34:=Zkn (d:=34) h34
   all_goals rw [if_neg n34] at hq
   ·have hc:c=92:=Zko (d:=92) h92
    rw [if_pos hc] at hq
    refine Zdq r3 fun h5 r5 u5 z5=>?_
    have u5':Upd (UB R h1.size) h4 h5:=u5.mono fun k _ hk=> .inl hk
    refine ZrA r5 (keepB b3 u5) hRB (by simp at n3;omega) (fun o r h6 ho r6 b6 u6=>?_) fun e r h6 he u6=>er (by rw [hq,he];rfl) (u5'.trans u6)
    have hel:=ZrB ho
    have hrl:=hel.2.length_le
    simp only [Aqj] at n3
    refine ⟨⟨r,out++o,r6,b6,tU (u5'.trans u6),by rw [<- q3,hq,ho];rfl,by simp;omega,u3.trans (u5'.trans u6)⟩,?_⟩
    rw [r3.left,r6.left];simp;omega
   all_goals have n92:c≠92:=Zkn (d:=92) h92
   all_goals rw [if_neg n92] at hq
   ·rw [if_pos (by omega)] at hq
    simp only [Aqj] at n3
    refine ZkN b3 rfl (by omega) fun h5 b5 u5=>?_
    have u5':Upd (UB R h1.size) h4 h5:=u5.mono fun k _ hk=> .inr hk
    refine Zdq (keepR r3 u5) fun h6 r6 u6 z6=>?_
    have u6':Upd (UB R h1.size) h5 h6:=u6.mono fun k _ hk=> .inl hk
    refine ⟨⟨l3,out++[c],r6,keepB b5 u6,tU (u5'.trans u6'),by rw [<- q3,hq],by simp;omega,u3.trans (u5'.trans u6')⟩,?_⟩
    rw [r3.left,r6.left];simp
   ·rw [if_neg (by omega)] at hq
    simp only [Aqj] at n3
    refine Ztx r3 b3 t3 (by simp) hR hRB (by omega) (fun x r h5 hx r5 b5 u5=>?_) fun e r h5 he u5=>er (by rw [hq,he];rfl) u5
    obtain ⟨⟨_,hx1⟩,hx2⟩:=ZiJ hx
    obtain ⟨y,hy,hy1⟩:=Zpx hx1
    have hxy:x=y:=by rw [hx2,hy,ZfI]
    subst hxy
    have hlen:=congrArg List.length hy
    simp only [Aqj,Awe] at hlen
    have hy0:0<x.length:=by
      rcases x with _ | ⟨d,x⟩
      ·cases hy1
      ·simp
    refine ⟨⟨r,out++x,r5,b5,tU u5,by rw [<- q3,hq,hx];rfl,by simp;omega,u3.trans u5⟩,?_⟩
    rw [r3.left,r5.left];simp;omega
  ·refine Zoc r3 (fun he=>⟨rfl,by simp [he]⟩) fun he=>Zh ⟨rfl,by simp [he]⟩
end Go.Proofs.YtpjbjdheeemdiaaGreatDoor
