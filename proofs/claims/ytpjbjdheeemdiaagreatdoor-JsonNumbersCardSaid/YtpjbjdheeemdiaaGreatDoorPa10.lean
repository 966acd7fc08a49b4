/- The reader's words, one by one, keep what JsX asks. No program. -/
import Derived.Test.YtpjbjdheeemdiaaGreatDoorPa9
set_option linter.unusedVariables false
set_option linter.unusedSimpArgs false
namespace Go.Js
open Go
structure Hf {α:Type} (s:Bool) (p:BL→Out α):Prop where
  sf:Sf p
  pe:∀ n,Pe n p
  pb:∀ n,Pb n s p
structure Good {α:Type} (s:Bool) (p:BL→Out α):Prop extends Hf s p where
  bn:Bn s p
section
variable {α β:Type}
theorem Pe.mono {m n:Nat} {p:BL→Out α} (h:Pe n p) (hm:m≤n):Pe m p :=
  ⟨fun hx=>h.ext (by omega),fun hx=>h.eext (by omega),fun hx=>h.cutO (by omega),fun hx=>h.cutE (by omega)⟩
theorem Pb.mono {m n:Nat} {s:Bool} {p:BL→Out α} (h:Pb n s p) (hm:m≤n):Pb m s p :=
  ⟨fun hx=>h.bl (by omega),fun hx=>h.blo (by omega)⟩
theorem Good.tl {s:Bool} {g:BL→Out α} (h:Good s g):Hf s (tlP g) :=
  ⟨ZuL h.sf,fun n=>(Ziz h.sf (h.pe n)).mono (Nat.le_succ n),fun n=>(ZiA (h.pb n) h.bn).mono (Nat.le_succ n)⟩
theorem Good.okP (s:Bool) (a:α):Good s (Js.okP a):=⟨⟨Zps a,fun _=>Zpt a,fun _=>Zpu s a⟩,Zpv s a⟩
theorem Hf.fail {s:Bool} {e:Nat} (he:e≠24):Hf s (XC e:BL→Out α):=⟨ZrJ he,fun _=>Zj4,fun _=>Zj5 he⟩
theorem Hf.ite {s:Bool} {c:Prop} [Decidable c] {p q:BL→Out α} (hp:Hf s p) (hq:Hf s q):Hf s (if c then p else q):=by split<;>assumption
theorem St.ite {k:Nat} {c:Prop} [Decidable c] {p q:BL→Out α} (hp:St k p) (hq:St k q):St k (if c then p else q):=by split<;>assumption
theorem St.mono {k m:Nat} {p:BL→Out α} (h:St k p) (hm:m≤k):St m p:=⟨fun e=>by have:=h.len e;omega⟩
theorem ZqY {p:BL→Out α} (h:St 1 p) {l r:BL} {a:α} (e:p l = .ok a r) (hl:l.length≤r.length) {P:Prop}:P:=by have:=h.len e;omega
theorem Hf.hd {s:Bool} {f:UInt8→BL→Out α} (hf:∀ c,Hf s (f c)) (hs:∀ c,St 1 (f c)):Hf s (hdP (.err 24 []) f) :=
  ⟨Zsu (.inr rfl) fun c=>(hf c).sf,fun n=>Zm1 (.inl rfl) (fun c r b h=>ZqY (hs c) h (Nat.le_refl _)) fun c=>(hf c).pe n,fun n=>Zm2 fun c=>(hf c).pb n⟩
theorem Hf.hdO {s:Bool} {a0:α} {f:UInt8→BL→Out α} (hf:∀ c,Hf s (f c)) (hs:∀ c,St 1 (f c)∨f c=Js.okP a0):Hf s (hdP (.ok a0 []) f):=by
  refine ⟨Zsu (.inl ⟨a0,rfl⟩) fun c=>(hf c).sf,fun n=>Zm1 (.inr ⟨a0,rfl,fun c r b h=>?_⟩) (fun c r b h h2=>by cases h2) fun c=>(hf c).pe n,fun n=>Zm2 fun c=>(hf c).pb n⟩
  rcases hs c with h1 | h1
  ·exact ZqY h1 h (Nat.le_refl _)
  ·rw [h1] at h;cases h;rfl
theorem Good.hd {s:Bool} {f:UInt8→BL→Out α} (hf:∀ c,Hf s (f c)) (hs:∀ c,St 1 (f c)) (hb:∀ c,Yf c=true→∃ e,f c=XC e):Good s (hdP (.err 24 []) f):=⟨Hf.hd hf hs,Zvl hb⟩
theorem Good.hdO {s:Bool} {a0:α} {f:UInt8→BL→Out α} (hf:∀ c,Hf s (f c)) (hs:∀ c,St 1 (f c)∨f c=Js.okP a0) (hb:∀ c,Yf c=true→f c=Js.okP a0):Good s (hdP (.ok a0 []) f):=⟨Hf.hdO hf hs,Ztg hb⟩
theorem Hf.bind {s s':Bool} {p:BL→Out α} {f:α→BL→Out β} (hp:Hf s p) (hf:∀ a,Good s' (f a)):Hf (s&&s') fun l=>(p l).bind f :=
  ⟨hp.sf.bind fun a=>(hf a).sf,fun n=>Pe.bind (m:=n) (k:=0) (hp.pe n) hp.sf hp.sf.st (fun a=>(hf a).pe n) fun a=>(hf a).sf,
   fun n=>Pb.bind (m:=n) (k:=0) (hp.pe n) (hp.pb n) hp.sf hp.sf.st (fun a=>(hf a).pb n) fun a=>(hf a).bn⟩
theorem Good.bind {s s':Bool} {p:BL→Out α} {f:α→BL→Out β} (hp:Good s p) (hf:∀ a,Good s' (f a)):Good (s&&s') fun l=>(p l).bind f :=
  ⟨hp.toHf.bind hf,hp.bn.bind hp.sf fun a=>(hf a).bn⟩
theorem Good.got {p:BL→Out α} (h:Good true p):Good true (ZcM p):=⟨⟨Zl8 h.sf,fun n=>Zl9 (h.pe n),fun n=>ZpZ (h.pb n)⟩,Ztj h.bn⟩
end
theorem ZcH:Good false (Zbz Yf):=⟨⟨Zkb _,fun _=>Znf _,fun _=>ZrR _⟩,ZrS _⟩
theorem ZrT:Good true (Zbz Yw):=⟨⟨Zkb _,fun _=>Znf _,fun _=>Zqc⟩,Zqd⟩
theorem Zgf:Z0=hdP (.err 24 []) fun c=>if Yw c then tlP (Zbz Yw) else XC 21:=by
  funext l
  rcases l with _ | ⟨c,l⟩
  ·rfl
  ·dsimp only [Z0,hdP]
   split<;>rfl
theorem ZhU:St 1 Z0:=by
  rw [Zgf]
  exact ZhH (fun a r h=>by cases h) fun c=>St.ite (Zai (ZfJ _)) X0
theorem ZdF:Good true Z0:=by
  rw [Zgf]
  refine Good.hd (fun c=>Hf.ite ZrT.tl (Hf.fail (by decide))) (fun c=>St.ite (Zai (ZfJ _)) X0) fun c hc=>⟨21,?_⟩
  rcases ZcR hc with rfl | rfl | rfl | rfl<;>rfl
def Zu5:BL→Out Unit:=fun l=> .ok () (Xb l)
theorem Zta:Zu5=hdP (.ok () []) fun c=>if c=45 then tlP (okP ()) else okP ():=by
  funext l
  rcases l with _ | ⟨c,l⟩
  ·rfl
  ·dsimp only [Zu5,Xb,hdP]
   split<;>rfl
theorem ZmV:Good true Zu5:=by
  rw [Zta]
  refine Good.hdO (fun c=>Hf.ite (Good.okP _ _).tl (Good.okP _ _).toHf) (fun c=>?_) fun c hc=>?_
  ·by_cases h:c=45
   ·left;rw [if_pos h];exact Zai (ZdN _)
   ·right;rw [if_neg h]
  ·rcases ZcR hc with rfl | rfl | rfl | rfl<;>rfl
def ZuR:BL→Out Unit:=fun l=> .ok () (Zdp l)
theorem ZsW:ZuR=hdP (.ok () []) fun c=>if c=43∨c=45 then tlP (okP ()) else okP ():=by
  funext l
  rcases l with _ | ⟨c,l⟩
  ·rfl
  ·dsimp only [ZuR,Zdp,hdP]
   split<;>rfl
theorem ZmG:Good true ZuR:=by
  rw [ZsW]
  refine Good.hdO (fun c=>Hf.ite (Good.okP _ _).tl (Good.okP _ _).toHf) (fun c=>?_) fun c hc=>?_
  ·by_cases h:c=43∨c=45
   ·left;rw [if_pos h];exact Zai (ZdN _)
   ·right;rw [if_neg h]
  ·rcases ZcR hc with rfl | rfl | rfl | rfl<;>rfl
theorem ZiR:X9=hdP (.ok () []) fun c=>if Yw c then XC 21 else okP ():=by
  funext l
  rcases l with _ | ⟨c,l⟩
  ·rfl
  ·dsimp only [X9,hdP]
   split<;>rfl
theorem Ze9:Good true X9:=by
  rw [ZiR]
  refine Good.hdO (fun c=>Hf.ite (Hf.fail (by decide)) (Good.okP _ _).toHf) (fun c=>?_) fun c hc=>?_
  ·by_cases h:Yw c=true
   ·left;rw [if_pos h];exact X0
   ·right;rw [if_neg h]
  ·rcases ZcR hc with rfl | rfl | rfl | rfl<;>rfl
theorem Zl5:ZeS=hdP (.err 24 []) fun c=>if c=48 then tlP X9 else Z0:=by
  funext l
  rcases l with _ | ⟨c,l⟩
  ·rfl
  ·dsimp only [ZeS,hdP]
   split<;>rfl
theorem Zvj:St 1 ZeS:=by
  rw [Zl5]
  exact ZhH (fun a r h=>by cases h) fun c=>St.ite (Zai Ze9.sf.st) ZhU
theorem Zvk:Hf true ZeS:=by
  rw [Zl5]
  exact Hf.hd (fun c=>Hf.ite Ze9.tl ZdF.toHf) fun c=>St.ite (Zai Ze9.sf.st) ZhU
theorem Zrz:Good true ZeS:=by
  refine ⟨Zvk,fun {b} _ hb=>?_,fun {b a} h=>by cases h⟩
  rcases b with _ | ⟨c,b⟩
  ·exact ⟨24,[],rfl,List.suffix_refl _⟩
  ·refine ⟨21,c::b,?_,List.suffix_refl _⟩
   rcases ZcR (hb c (by simp)) with rfl | rfl | rfl | rfl<;>rfl
theorem Zm6:ZcP=hdP (.ok () []) fun c=>if c=46 then tlP Z0 else okP ():=by
  funext l
  rcases l with _ | ⟨c,l⟩
  ·rfl
  ·dsimp only [ZcP,hdP]
   split<;>rfl
theorem Zk5:Good true ZcP:=by
  rw [Zm6]
  refine Good.hdO (fun c=>Hf.ite ZdF.tl (Good.okP _ _).toHf) (fun c=>?_) fun c hc=>?_
  ·by_cases h:c=46
   ·left;rw [if_pos h];exact St.mono (Zai ZhU) (by omega)
   ·right;rw [if_neg h]
  ·rcases ZcR hc with rfl | rfl | rfl | rfl<;>rfl
theorem Zp9:Zfm=hdP (.ok () []) fun c=>if c=101∨c=69 then tlP (fun l=>(ZuR l).bind fun _=>Z0) else okP ():=by
  funext l
  rcases l with _ | ⟨c,l⟩
  ·rfl
  ·dsimp only [Zfm,hdP]
   split<;>rfl
theorem Zna:Good true Zfm:=by
  rw [Zp9]
  refine Good.hdO (fun c=>Hf.ite (ZmG.bind fun _=>ZdF).tl (Good.okP _ _).toHf) (fun c=>?_) fun c hc=>?_
  ·by_cases h:c=101∨c=69
   ·left;rw [if_pos h];exact Zai (k:=0) (ZmG.bind fun _=>ZdF).sf.st
   ·right;rw [if_neg h]
  ·rcases ZcR hc with rfl | rfl | rfl | rfl<;>rfl
theorem ZlW:ZcA=fun l=>(Zu5 l).bind fun _ l=>(ZeS l).bind fun _ l=>(ZcP l).bind fun _=>Zfm:=rfl
theorem ZeE:Good true ZcA:=by
  rw [ZlW]
  exact ZmV.bind fun _=>Zrz.bind fun _=>Zk5.bind fun _=>Zna
theorem Zsk:St 1 ZcA:=by
  rw [ZlW]
  exact St.mono (St.bind (k:=0) (m:=1) ZmV.sf.st fun _=>St.bind (k:=1) (m:=0) Zvj fun _=>(Zk5.bind fun _=>Zna).sf.st) (by omega)
theorem Zmv (c:UInt8) (w:BL):Xo (c::w)=hdP (.err 24 []) fun d=>if d=c then tlP (Xo w) else XC 20:=by
  funext l
  rcases l with _ | ⟨d,l⟩
  ·rfl
  ·dsimp only [Xo,hdP]
   split<;>rfl
theorem ZcD:∀ (w:BL),(∀ c∈w,Yf c=false)→Good true (Xo w)∧St w.length (Xo w)
  | [],_=>⟨Good.okP true (),ZdN ()⟩
  | c::w,h=>by
    obtain ⟨a,b⟩:=ZcD w fun d hd=>h d (by simp [hd])
    rw [Zmv]
    refine ⟨Good.hd (fun d=>Hf.ite a.tl (Hf.fail (by decide))) (fun d=>St.ite (St.mono (Zai b) (by omega)) X0) fun d hd=>⟨20,?_⟩,ZhH (fun a r h=>by cases h) fun d=>St.ite (Zai b) X0⟩
    rw [if_neg]
    intro e
    rw [e,h c (by simp)] at hd
    cases hd
theorem ZpW (k n:Nat):ZbN (k+1) n=hdP (.err 24 []) fun c=>match Zfd c with
    | some d=>tlP (ZbN k (n*16+d))
    | none=>XC 22:=by
  funext l
  rcases l with _ | ⟨c,l⟩
  ·rfl
  ·dsimp only [ZbN,hdP]
   cases Zfd c<;>rfl
theorem ZgO:∀ (k n:Nat),Good true (ZbN k n)∧St k (ZbN k n)
  | 0,n=>⟨Good.okP true n,ZdN n⟩
  | k+1,n=>by
    rw [ZpW]
    have ih:=fun m=>ZgO k m
    refine ⟨Good.hd (fun c=>?_) (fun c=>?_) fun c hc=>⟨22,?_⟩,ZhH (fun a r h=>by cases h) fun c=>?_⟩
    ·cases Zfd c with
     | some d=>exact (ih _).1.tl
     | none=>exact Hf.fail (by decide)
    ·cases Zfd c with
     | some d=>exact St.mono (Zai (ih _).2) (by omega)
     | none=>exact X0
    ·rcases ZcR hc with rfl | rfl | rfl | rfl<;>rfl
    ·cases Zfd c with
     | some d=>exact Zai (ih _).2
     | none=>exact X0
theorem ZoT:Ziy=hdP (.err 24 []) fun c=>match ZaO c with
    | some m=>tlP (okP (.ch m))
    | none=>if c=117 then tlP (fun l=>(ZbN 4 0 l).bind fun n=>okP (.uni n)) else XC 22:=by
  funext l
  rcases l with _ | ⟨c,l⟩
  ·rfl
  ·dsimp only [Ziy,hdP]
   cases ZaO c with
   | some m=>rfl
   | none=>dsimp only;split<;>rfl
theorem ZaH:Good true Ziy:=by
  rw [ZoT]
  refine Good.hd (fun c=>?_) (fun c=>?_) fun c hc=>⟨22,?_⟩
  ·cases ZaO c with
   | some m=>exact (Good.okP _ _).tl
   | none=>exact Hf.ite ((ZgO 4 0).1.bind fun _=>Good.okP true _).tl (Hf.fail (by decide))
  ·cases ZaO c with
   | some m=>exact Zai (ZdN _)
   | none=>exact St.ite ((Zai (k:=0) ((ZgO 4 0).1.bind (s':=true) fun _=>Good.okP true _).sf.st)) X0
  ·rcases ZcR hc with rfl | rfl | rfl | rfl<;>rfl
theorem Zni (n lo hi:Nat):Zb0 (n+1) lo hi=hdP (.err 24 []) fun d=>if lo≤d.toNat∧d.toNat≤hi then tlP (Zb0 n 128 191) else XC 22:=by
  funext l
  rcases l with _ | ⟨c,l⟩
  ·rfl
  ·dsimp only [Zb0,hdP]
   split<;>rfl
theorem ZhV:∀ (n lo hi:Nat),128≤lo→Good true (Zb0 n lo hi)
  | 0,_,_,_=>Good.okP true ()
  | n+1,lo,hi,h=>by
    rw [Zni]
    refine Good.hd (fun c=>Hf.ite (ZhV n 128 191 (Nat.le_refl _)).tl (Hf.fail (by decide))) (fun c=>St.ite (Zai (k:=0) (ZhV n 128 191 (Nat.le_refl _)).sf.st) X0) fun c hc=>⟨22,?_⟩
    rw [if_neg]
    rcases ZcR hc with rfl | rfl | rfl | rfl<;>(intro hh;have:=hh.1;simp at this;omega)
theorem ZmH:XT=hdP (.err 24 []) fun c=>if nRb c=0 then XC 22 else tlP (Zb0 (nRb c - 1) (loR c) (hiR c)):=by
  funext l
  rcases l with _ | ⟨c,l⟩
  ·rfl
  ·dsimp only [XT,hdP]
   split<;>rfl
theorem Zte:∀ b:Fin 256,2≤nRb ⟨⟨b⟩⟩→128≤loR ⟨⟨b⟩⟩:=by decide +kernel
theorem ZpI:∀ c:UInt8,2≤nRb c→128≤loR c:=fun ⟨⟨b⟩⟩=>Zte b
theorem Zc6:Hf true XT∧St 1 XT:=by
  rw [ZmH]
  have key:∀ c,Good true (Zb0 (nRb c - 1) (loR c) (hiR c)):=fun c=>by
    by_cases h:2≤nRb c
    ·exact ZhV _ _ _ (ZpI c h)
    ·rw [show nRb c - 1=0 by omega];exact Good.okP true ()
  have st:∀ c,St 1 (if nRb c=0 then XC 22 else tlP (Zb0 (nRb c - 1) (loR c) (hiR c))):=fun c=>St.ite X0 (Zai (k:=0) (key c).sf.st)
  exact ⟨Hf.hd (fun c=>Hf.ite (Hf.fail (by decide)) (key c).tl) st,ZhH (fun a r h=>by cases h) st⟩
def T (p:Option Nat) (out:BL):BL→Out BL:=fun l=>Zbd (l.length+1) p out l
def tF (p:Option Nat) (out:BL) (c:UInt8):BL→Out BL :=
  if c.toNat<32 then XC 22
  else if c=34 then tlP (okP (out++flB p))
  else if c=92 then tlP fun l=>(Ziy l).bind fun t=>T (Zgu p out t).1 (Zgu p out t).2
  else if c.toNat<128 then tlP (T none (out++flB p++[c]))
  else fun l=>(ZcM XT l).bind fun o=>T none (out++flB p++o)
theorem Znp {n:Nat} {p:Option Nat} {out l:BL} (h:l.length<n):Zbd n p out l=T p out l:=Zcy _ _ _ _ _ h (Nat.lt_succ_self _)
theorem ZtS (p:Option Nat) (out:BL):T p out=hdP (.err 24 []) (tF p out):=by
  funext l
  rcases l with _ | ⟨c,l⟩
  ·rfl
  ·show Zbd ((c::l).length+1) p out (c::l)=tF p out c (c::l)
   unfold Zbd tF
   split
   ·rfl
   split
   ·rfl
   split
   ·show _=(Ziy l).bind _
    cases h:Ziy l with
    | err e r=>rfl
    | ok t r=>exact Znp (by have:=(Zfp h).1;simp;omega)
   split
   ·exact Znp (by simp)
   ·show _=(ZcM XT (c::l)).bind _
    unfold ZcM
    cases h:XT (c::l) with
    | err e r=>rfl
    | ok t r=>exact Znp (by have:=(Za3 h).1;simp at this ⊢;omega)
theorem ZgK:∀ (n:Nat) (p:Option Nat) (out l:BL),l.length<n→(∀ a r,Zbd n p out l = .ok a r→r <:+l∧r.length<l.length)∧∀ e r,Zbd n p out l = .err e r→r <:+l∧(e=24↔r=[])
  | 0,_,_,_,h=>by omega
  | n+1,p,out,[],_=>⟨fun a r h=>(by cases h),fun e r h=>by cases h;simp⟩
  | n+1,p,out,c::l,h=>by
    simp only [List.length_cons] at h
    have up:∀ {r q:BL},r.length<(c::l).length→r <:+c::l→∀ {p':Option Nat} {out':BL},(∀ a q,Zbd n p' out' r = .ok a q→q <:+c::l∧q.length<(c::l).length)∧∀ e q,Zbd n p' out' r = .err e q→q <:+c::l∧(e=24↔q=[]):=fun {r q} hr hs {p' out'}=>by
      obtain ⟨a,b⟩:=ZgK n p' out' r (by simp at hr;omega)
      exact ⟨fun x q hq=>⟨(a x q hq).1.trans hs,Nat.lt_trans (a x q hq).2 hr⟩,fun e q hq=>⟨(b e q hq).1.trans hs,(b e q hq).2⟩⟩
    unfold Zbd
    split
    ·exact ⟨fun a r h=>(by cases h),fun e r h=>by cases h;simp⟩
    split
    ·exact ⟨fun a r h=>by cases h;exact ⟨List.suffix_cons _ _,by simp⟩,fun e r h=>by cases h⟩
    split
    ·cases ht:Ziy l with
     | err e r=>exact ⟨fun a q h=>(by cases h),fun e q h=>by cases h;exact ⟨Xf (ZaH.sf.esuf ht).1,(ZaH.sf.esuf ht).2⟩⟩
     | ok t r=>exact up (q:=[]) (by have:=(Zfp ht).1;simp;omega) (Xf (Zfp ht).2)
    split
    ·exact up (q:=[]) (by simp) (List.suffix_cons _ _)
    ·cases ht:XT (c::l) with
     | err e r=>exact ⟨fun a q h=>(by cases h),fun e q h=>by cases h;exact Zc6.1.sf.esuf ht⟩
     | ok t r=>exact up (q:=[]) (Za3 ht).1 (Za3 ht).2
theorem Zvy (p:Option Nat) (out:BL):Sf (T p out):=⟨fun h=>((ZgK _ p out _ (Nat.lt_succ_self _)).1 _ _ h).1,fun h=>(ZgK _ p out _ (Nat.lt_succ_self _)).2 _ _ h⟩
theorem ZvR (p:Option Nat) (out:BL):St 1 (T p out):=⟨fun h=>((ZgK _ p out _ (Nat.lt_succ_self _)).1 _ _ h).2⟩
theorem ZwO (p:Option Nat) (out:BL) (c:UInt8):St 1 (tF p out c):=by
  unfold tF
  refine St.ite X0 (St.ite (Zai (ZdN _)) (St.ite (Zai (k:=0) ?_) (St.ite (St.mono (Zai (ZvR _ _)) (by omega)) ?_)))
  ·exact St.mono (m:=0) (St.bind (k:=0) (m:=1) ZaH.sf.st fun t=>ZvR _ _) (by omega)
  ·exact St.mono (m:=1) (St.bind (k:=1) (m:=1) (Zj0 Zc6.2) fun t=>ZvR _ _) (by omega)
theorem ZqA:∀ (b:BL) (p:Option Nat) (out:BL),Blk b→∃ e r,T p out b = .err e r∧r <:+b
  | [],p,out,_=>⟨24,[],rfl,List.suffix_refl _⟩
  | c::b,p,out,h=>by
    rw [ZtS]
    show ∃ e r,tF p out c (c::b)=_∧_
    rcases ZcR (h c (by simp)) with rfl | rfl | rfl | rfl
    ·obtain ⟨e,r,h1,h2⟩:=ZqA b none (out++flB p++[32]) h.tail
     exact ⟨e,r,h1,Xf h2⟩
    ·exact ⟨22,_,rfl,List.suffix_refl _⟩
    ·exact ⟨22,_,rfl,List.suffix_refl _⟩
    ·exact ⟨22,_,rfl,List.suffix_refl _⟩
theorem Zvz (p:Option Nat) (out:BL):Bn true (T p out):=⟨fun _ hb=>ZqA _ p out hb,fun h=>by cases h⟩
theorem ZvS:∀ (n:Nat) (p:Option Nat) (out:BL),Pe n (T p out)
  | 0,_,_=>⟨fun h=>by omega,fun h=>by omega,fun h=>by omega,fun h=>by omega⟩
  | n+1,p,out=>by
    rw [ZtS]
    refine Zm1 (.inl rfl) (fun c r b h=>ZqY (ZwO p out c) h (Nat.le_refl _)) fun c=>?_
    unfold tF
    split
    ·exact Zj4
    split
    ·exact Ziz (Zps _) (Zpt _)
    split
    ·exact Ziz (ZaH.sf.bind fun t=>Zvy _ _) (Pe.bind (m:=n) (k:=0) (ZaH.pe n) ZaH.sf ZaH.sf.st (fun t=>ZvS n _ _) fun t=>Zvy _ _)
    split
    ·exact Ziz (Zvy _ _) (ZvS n _ _)
    ·exact Pe.bind (m:=n) (k:=1) (Zl9 (Zc6.1.pe _)) (Zl8 Zc6.1.sf) (Zj0 Zc6.2) (fun t=>ZvS n _ _) fun t=>Zvy _ _
theorem ZvT:∀ (n:Nat) (p:Option Nat) (out:BL),Pb n true (T p out)
  | 0,_,_=>⟨fun h=>by omega,fun h=>by omega⟩
  | n+1,p,out=>by
    rw [ZtS]
    refine Zm2 fun c=>?_
    unfold tF
    split
    ·exact Zj5 (by decide)
    split
    ·exact ZiA (Zpu _ _) (Zpv _ _)
    split
    ·exact ZiA (Pb.bind (m:=n) (k:=0) (s:=true) (s':=true) (ZaH.pe n) (ZaH.pb n) ZaH.sf ZaH.sf.st (fun t=>ZvT n _ _) fun t=>Zvz _ _) (ZaH.bn.bind (s':=true) ZaH.sf fun t=>Zvz _ _)
    split
    ·exact ZiA (ZvT n _ _) (Zvz _ _)
    ·exact Pb.bind (m:=n) (k:=1) (s:=true) (s':=true) (Zl9 (Zc6.1.pe _)) (ZpZ (Zc6.1.pb _)) (Zl8 Zc6.1.sf) (Zj0 Zc6.2) (fun t=>ZvT n _ _) fun t=>Zvz _ _
theorem ZsA (p:Option Nat) (out:BL):Good true (T p out):=⟨⟨Zvy p out,fun n=>ZvS n p out,fun n=>ZvT n p out⟩,Zvz p out⟩
theorem Zd3:Zgo=T none []:=by
  funext l
  exact (Zg8 _ l (Nat.lt_succ_self _)).1 []
def nmP:BL→Out BL:=fun l=>(Zbz Yf l).bind fun _=>hdP (.err 24 []) fun c=>if c=34 then tlP fun l=>(Zgo l).bind fun nm l=>(Zbz Yf l).bind fun _=>hdP (.err 24 []) fun d=>if d=58 then tlP (okP nm) else XC 20 else XC 20
theorem ZmU:ZaM=nmP:=by
  funext l
  show ZaM l=hdP _ _ (ZI l)
  unfold ZaM
  cases ZI l with
  | nil=>rfl
  | cons c l1 =>
    show _=(if c=34 then _ else _:BL→Out BL) (c::l1)
    dsimp only
    split
    ·show _=(Zgo l1).bind _
     congr 1
     funext nm l2
     show _=hdP _ _ (ZI l2)
     cases ZI l2 with
     | nil=>rfl
     | cons d l3 =>
       show _=(if d=58 then _ else _:BL→Out BL) (d::l3)
       dsimp only
       split<;>rfl
    ·rfl
theorem ZgQ {c d:UInt8} (hc:Yf c=true) (hd:Yf d=false):c≠d:=fun e=>by rw [e,hd] at hc;cases hc
theorem ZfD:Good false ZaM∧St 1 ZaM:=by
  rw [ZmU]
  have g3:∀ nm:BL,Good false (hdP (.err 24 []) fun d=>if d=58 then tlP (okP nm) else XC 20):=fun nm=>by
    refine Good.hd (fun c=>Hf.ite (Good.okP _ _).tl (Hf.fail (by decide))) (fun c=>St.ite (Zai (ZdN _)) X0) fun c hc=>⟨20,?_⟩
    rw [if_neg (ZgQ hc (by decide))]
  have g2:∀ nm:BL,Good false fun l=>(Zbz Yf l).bind fun _=>hdP (.err 24 []) fun d=>if d=58 then tlP (okP nm) else XC 20:=fun nm=>ZcH.bind fun _=>g3 nm
  have g1:Good false fun l=>(Zgo l).bind fun nm l=>(Zbz Yf l).bind fun _=>hdP (.err 24 []) fun d=>if d=58 then tlP (okP nm) else XC 20:=by
    rw [Zd3]
    exact (ZsA none []).bind fun nm=>g2 nm
  have g0:Good false (hdP (.err 24 []) fun c=>if c=34 then tlP fun l=>(Zgo l).bind fun nm l=>(Zbz Yf l).bind fun _=>hdP (.err 24 []) fun d=>if d=58 then tlP (okP nm) else XC 20 else XC 20)∧St 1 (hdP (.err 24 []) fun c=>if c=34 then tlP fun l=>(Zgo l).bind fun nm l=>(Zbz Yf l).bind fun _=>hdP (.err 24 []) fun d=>if d=58 then tlP (okP nm) else XC 20 else XC 20):=by
    have st:∀ c:UInt8,St 1 (if c=34 then tlP fun l=>(Zgo l).bind fun nm l=>(Zbz Yf l).bind fun _=>hdP (.err 24 []) fun d=>if d=58 then tlP (okP nm) else XC 20 else XC 20):=fun c=>St.ite (Zai (k:=0) g1.sf.st) X0
    refine ⟨Good.hd (fun c=>Hf.ite g1.tl (Hf.fail (by decide))) st fun c hc=>⟨20,?_⟩,ZhH (fun a r h=>by cases h) st⟩
    rw [if_neg (ZgQ hc (by decide))]
  exact ⟨ZcH.bind fun _=>g0.1,St.mono (St.bind (k:=0) (m:=1) (ZfJ _) fun _=>g0.2) (by omega)⟩
section
variable {pv:BL→Out JV}
theorem ZmM (ob:Bool) (ns:List BL) (sub:JL):X8 pv ob ns sub=if ob=true then fun l=>(ZaM l).bind fun nm l=>(pv l).bind fun v l=>(Zbz Yf l).bind fun _=>okP (ns++[nm],sub.snoc v)
    else fun l=>(Zbz Yf l).bind fun _ l=>(pv l).bind fun v l=>(Zbz Yf l).bind fun _=>okP (ns,sub.snoc v):=by
  funext l
  unfold X8
  split<;>rfl
theorem ZbF (hv:Good false pv) (hs:St 1 pv) (ob:Bool) (ns:List BL) (sub:JL):Good false (X8 pv ob ns sub)∧St 1 (X8 pv ob ns sub):=by
  rw [ZmM]
  have fin:∀ a:List BL × JL,Good false fun l=>(Zbz Yf l).bind fun _=>okP a:=fun a=>ZcH.bind fun _=>Good.okP false a
  split
  ·exact ⟨ZfD.1.bind fun nm=>hv.bind fun v=>fin _,St.mono (m:=1) (St.bind (k:=1) (m:=1) ZfD.2 fun nm=>St.bind (k:=1) (m:=0) hs fun v=>(fin _).sf.st) (by omega)⟩
  ·exact ⟨ZcH.bind fun _=>hv.bind fun v=>fin _,St.mono (m:=1) (St.bind (k:=0) (m:=1) (ZfJ _) fun _=>St.bind (k:=1) (m:=0) hs fun v=>(fin _).sf.st) (by omega)⟩
def L (pv:BL→Out JV) (ob:Bool) (ns:List BL) (sub:JL):BL→Out (List BL × JL):=fun l=>Zde pv ob (l.length+1) ns sub l
theorem Zgc (hv:Good false pv) (hs:St 1 pv) (ob:Bool):∀ (n m:Nat) (ns:List BL) (sub:JL) (l:BL),l.length<n→l.length<m→Zde pv ob n ns sub l=Zde pv ob m ns sub l
  | 0,_,_,_,_,h,_=>by omega
  | _,0,_,_,_,_,h=>by omega
  | n+1,m+1,ns,sub,l,hn,hm=>by
    have go:∀ l',l'.length≤l.length→((X8 pv ob ns sub l').bind fun p l2=>Zde pv ob n p.1 p.2 l2)=(X8 pv ob ns sub l').bind fun p l2=>Zde pv ob m p.1 p.2 l2:=fun l' hl=>by
      cases e:X8 pv ob ns sub l' with
      | err k r=>rfl
      | ok p r=>have:=(ZbF hv hs ob ns sub).2.len e;exact Zgc hv hs ob n m _ _ r (by omega) (by omega)
    unfold Zde
    rw [go l (Nat.le_refl _),go l.tail (by simp)]
def lF (pv:BL→Out JV) (ob:Bool) (ns:List BL) (sub:JL) (c:UInt8):BL→Out (List BL × JL) :=
  if c=Zb3 ob then tlP (okP (ns,sub))
  else if sub.isNil=true then fun l=>(X8 pv ob ns sub l).bind fun p=>L pv ob p.1 p.2
  else if c=44 then tlP fun l=>(X8 pv ob ns sub l).bind fun p=>L pv ob p.1 p.2
  else XC 20
theorem ZgM (h0:pv [] = .err 24 []) (ob:Bool) (ns:List BL) (sub:JL):X8 pv ob ns sub [] = .err 24 []:=by
  unfold X8
  cases ob
  ·show (pv []).bind _=_
   rw [h0];rfl
  ·rfl
theorem Zov (hv:Good false pv) (hs:St 1 pv) (h0:pv [] = .err 24 []) (ob:Bool) (ns:List BL) (sub:JL):L pv ob ns sub=hdP (.err 24 []) (lF pv ob ns sub):=by
  funext l
  rcases l with _ | ⟨c,l⟩
  ·show Zde pv ob 1 ns sub [] = .err 24 []
   unfold Zde
   rw [if_neg (by simp [Zb2]),ZgM h0]
   split
   ·rfl
   ·rw [if_neg (by simp [Zb2])];rfl
  ·show Zde pv ob ((c::l).length+1) ns sub (c::l)=lF pv ob ns sub c (c::l)
   unfold Zde lF
   have go:∀ l',l'.length≤(c::l).length→((X8 pv ob ns sub l').bind fun p l2=>Zde pv ob (c::l).length p.1 p.2 l2)=(X8 pv ob ns sub l').bind fun p=>L pv ob p.1 p.2:=fun l' hl=>by
     cases e:X8 pv ob ns sub l' with
     | err k r=>rfl
     | ok p r=>have:=(ZbF hv hs ob ns sub).2.len e;exact Zgc hv hs ob _ _ _ _ r (by omega) (by omega)
   rw [go _ (Nat.le_refl _),go (c::l).tail (by simp)]
   by_cases h1:c=Zb3 ob
   ·rw [if_pos h1,if_pos (by simp [Zb2,h1])];rfl
   rw [if_neg h1,if_neg (by simp [Zb2,h1])]
   by_cases h2:sub.isNil=true
   ·rw [if_pos h2,if_pos h2]
   rw [if_neg h2,if_neg h2]
   by_cases h3:c=44
   ·rw [if_pos h3,if_pos (by simp [Zb2,h3])];rfl
   ·rw [if_neg h3,if_neg (by simp [Zb2,h3])]
theorem ZjT (hv:Good false pv) (hs:St 1 pv) (h0:pv [] = .err 24 []) (ob:Bool):∀ (n:Nat) (ns:List BL) (sub:JL) (l:BL),l.length<n→(∀ a r,L pv ob ns sub l = .ok a r→r <:+l∧r.length<l.length)∧∀ e r,L pv ob ns sub l = .err e r→r <:+l∧(e=24↔r=[])
  | 0,_,_,_,h=>by omega
  | n+1,ns,sub,l,h=>by
    have ih:∀ l',l'.length≤l.length→l' <:+l→(∀ a r,((X8 pv ob ns sub l').bind fun p=>L pv ob p.1 p.2) = .ok a r→r <:+l∧r.length<l.length)∧∀ e r,((X8 pv ob ns sub l').bind fun p=>L pv ob p.1 p.2) = .err e r→r <:+l∧(e=24↔r=[]):=fun l' hl hsuf=>by
      have pg:=ZbF hv hs ob ns sub
      cases e:X8 pv ob ns sub l' with
      | err k q=>exact ⟨fun a r h=>(by cases h),fun e' r h=>by cases h;exact ⟨(pg.1.sf.esuf e).1.trans hsuf,(pg.1.sf.esuf e).2⟩⟩
      | ok p q =>
        have h1:=pg.2.len e
        have h2:=(pg.1.sf.suf e).trans hsuf
        obtain ⟨a,b⟩:=ZjT hv hs h0 ob n p.1 p.2 q (by omega)
        exact ⟨fun x r hr=>⟨(a x r hr).1.trans h2,by have:=(a x r hr).2;omega⟩,fun e' r hr=>⟨(b e' r hr).1.trans h2,(b e' r hr).2⟩⟩
    rw [Zov hv hs h0]
    rcases l with _ | ⟨c,l⟩
    ·exact ⟨fun a r h=>(by cases h),fun e r h=>by cases h;simp⟩
    show (∀ a r,lF pv ob ns sub c (c::l) = .ok a r→_)∧∀ e r,lF pv ob ns sub c (c::l) = .err e r→_
    unfold lF
    split
    ·exact ⟨fun a r h=>by cases h;exact ⟨List.suffix_cons _ _,by simp⟩,fun e r h=>by cases h⟩
    split
    ·exact ih _ (Nat.le_refl _) (List.suffix_refl _)
    split
    ·exact ih l (by simp) (List.suffix_cons _ _)
    ·exact ⟨fun a r h=>(by cases h),fun e r h=>by cases h;simp⟩
theorem ZpG (hv:Good false pv) (hs:St 1 pv) (h0:pv [] = .err 24 []) (ob:Bool) (ns:List BL) (sub:JL):Good false (L pv ob ns sub)∧St 1 (L pv ob ns sub):=by
  have sf:∀ ns sub,Sf (L pv ob ns sub):=fun ns sub=>⟨fun h=>((ZjT hv hs h0 ob _ ns sub _ (Nat.lt_succ_self _)).1 _ _ h).1,fun h=>(ZjT hv hs h0 ob _ ns sub _ (Nat.lt_succ_self _)).2 _ _ h⟩
  have st:∀ ns sub,St 1 (L pv ob ns sub):=fun ns sub=>⟨fun h=>((ZjT hv hs h0 ob _ ns sub _ (Nat.lt_succ_self _)).1 _ _ h).2⟩
  have fst:∀ ns sub c,St 1 (lF pv ob ns sub c):=fun ns sub c=>by
    unfold lF
    have pg:=ZbF hv hs ob ns sub
    have b:St 1 fun l=>(X8 pv ob ns sub l).bind fun p=>L pv ob p.1 p.2:=St.mono (m:=1) (St.bind (k:=1) (m:=1) pg.2 fun p=>st _ _) (by omega)
    exact St.ite (Zai (ZdN _)) (St.ite b (St.ite (St.mono (Zai b) (by omega)) X0))
  have bn:∀ ns sub,Bn false (L pv ob ns sub):=fun ns sub=>by
    have pg:=ZbF hv hs ob ns sub
    rw [Zov hv hs h0]
    refine ⟨fun {b} _ hb=>?_,fun h=>by cases h⟩
    rcases b with _ | ⟨c,b⟩
    ·exact ⟨24,[],rfl,List.suffix_refl _⟩
    ·have hc:=hb c (by simp)
     show ∃ e r,lF pv ob ns sub c (c::b)=_∧_
     unfold lF
     rw [if_neg (ZgQ hc (by cases ob<;>decide)),if_neg (c:=c=44) (ZgQ hc (by decide))]
     split
     ·obtain ⟨e,r,h1,h2⟩:=pg.1.bn.bl (ZgM h0 ob ns sub) hb
      exact ⟨e,r,by dsimp only;rw [h1];rfl,h2⟩
     ·exact ⟨20,_,rfl,List.suffix_refl _⟩
  have pe:∀ n ns sub,Pe n (L pv ob ns sub):=by
    intro n
    induction n with
    | zero=>intro ns sub;exact ⟨fun h=>by omega,fun h=>by omega,fun h=>by omega,fun h=>by omega⟩
    | succ n ih =>
      intro ns sub
      have pg:=ZbF hv hs ob ns sub
      rw [Zov hv hs h0]
      refine Zm1 (.inl rfl) (fun c r b h=>ZqY (fst ns sub c) h (Nat.le_refl _)) fun c=>?_
      unfold lF
      have b:Pe (n+1) fun l=>(X8 pv ob ns sub l).bind fun p=>L pv ob p.1 p.2:=Pe.bind (m:=n) (k:=1) (pg.1.pe _) pg.1.sf pg.2 (fun p=>ih _ _) fun p=>sf _ _
      split
      ·exact Ziz (Zps _) (Zpt _)
      split
      ·exact b
      split
      ·exact Ziz (pg.1.sf.bind fun p=>sf _ _) (b.mono (Nat.le_succ n))
      ·exact Zj4
  have pb:∀ n ns sub,Pb n false (L pv ob ns sub):=by
    intro n
    induction n with
    | zero=>intro ns sub;exact ⟨fun h=>by omega,fun h=>by omega⟩
    | succ n ih =>
      intro ns sub
      have pg:=ZbF hv hs ob ns sub
      rw [Zov hv hs h0]
      refine Zm2 fun c=>?_
      unfold lF
      have b:Pb (n+1) false fun l=>(X8 pv ob ns sub l).bind fun p=>L pv ob p.1 p.2:=Pb.bind (m:=n) (k:=1) (s:=false) (s':=false) (pg.1.pe _) (pg.1.pb _) pg.1.sf pg.2 (fun p=>ih _ _) fun p=>bn _ _
      split
      ·exact ZiA (Zpu _ _) (Zpv _ _)
      split
      ·exact b
      split
      ·exact ZiA (b.mono (Nat.le_succ n)) (pg.1.bn.bind (s':=false) pg.1.sf fun p=>bn _ _)
      ·exact Zj5 (by decide)
  exact ⟨⟨⟨sf ns sub,fun n=>pe n ns sub,fun n=>pb n ns sub⟩,bn ns sub⟩,st ns sub⟩
end
def vF (op:Bool→BL→Out JV) (c:UInt8):BL→Out JV :=
  if c=123 then op true
  else if c=91 then op false
  else if c=34 then tlP fun l=>(Zgo l).bind fun t=>okP ⟨5,t,[],.nil⟩
  else if c=110 then fun l=>(Xo [110,117,108,108] l).bind fun _=>okP ⟨1,[],[],.nil⟩
  else if c=102 then fun l=>(Xo [102,97,108,115,101] l).bind fun _=>okP ⟨2,[],[],.nil⟩
  else if c=116 then fun l=>(Xo [116,114,117,101] l).bind fun _=>okP ⟨3,[],[],.nil⟩
  else if c=45∨Yw c then fun l=>(ZcM ZcA l).bind fun t=>okP ⟨4,t,[],.nil⟩
  else XC 20
def vP (op:Bool→BL→Out JV):BL→Out JV:=fun l=>(Zbz Yf l).bind fun _=>hdP (.err 24 []) (vF op)
theorem Zfo {op op':Bool→BL→Out JV} (h:∀ b c l,op b (c::l)=op' b (c::l)):ZcW op=vP op':=by
  funext l
  show ZcW op l=hdP _ _ (ZI l)
  unfold ZcW
  cases ZI l with
  | nil=>rfl
  | cons c l1 =>
    show _=vF op' c (c::l1)
    unfold vF
    dsimp only
    split
    ·exact h true c l1
    split
    ·exact h false c l1
    split
    ·rfl
    split
    ·rfl
    split
    ·rfl
    split
    ·rfl
    split
    ·show _=(ZcM ZcA (c::l1)).bind _
     unfold ZcM
     cases ZcA (c::l1)<;>rfl
    ·rfl
def opP (pv:BL→Out JV) (ob:Bool):BL→Out JV:=tlP fun l=>(Zbz Yf l).bind fun _ l=>(L pv ob [] .nil l).bind fun p=>okP ⟨if ob then 7 else 6,[],p.1,p.2⟩
theorem ZjN {pv:BL→Out JV} (hv:Good false pv) (hs:St 1 pv) (ob:Bool) (c:UInt8) (l:BL):ZjO pv ob (c::l)=opP pv ob (c::l):=by
  show (Zde pv ob _ [] .nil (ZI l)).bind _=(L pv ob [] .nil (ZI l)).bind _
  unfold L
  rw [Zgc hv hs ob ((c::l).length+1) ((ZI l).length+1)]
  ·rfl
  ·have:=(ZkB l).length_le;simp;omega
  ·omega
theorem ZoO {op:Bool→BL→Out JV} (ho:∀ b,Hf false (op b)) (hs:∀ b,St 1 (op b)):Good false (vP op)∧St 1 (vP op):=by
  have w1:=ZcD [110,117,108,108] (by decide)
  have w2:=ZcD [102,97,108,115,101] (by decide)
  have w3:=ZcD [116,114,117,101] (by decide)
  have s0:Good false (fun l=>(Zgo l).bind fun t=>okP (⟨5,t,[],.nil⟩:JV)):=by rw [Zd3];exact (ZsA none []).bind fun t=>Good.okP false _
  have hf:∀ c,Hf false (vF op c):=fun c=>by
    unfold vF
    refine Hf.ite (ho true) (Hf.ite (ho false) (Hf.ite s0.tl (Hf.ite ?_ (Hf.ite ?_ (Hf.ite ?_ (Hf.ite ?_ (Hf.fail (by decide))))))))
    ·exact (w1.1.bind fun _=>Good.okP false _).toHf
    ·exact (w2.1.bind fun _=>Good.okP false _).toHf
    ·exact (w3.1.bind fun _=>Good.okP false _).toHf
    ·exact (ZeE.got.bind fun _=>Good.okP false _).toHf
  have st:∀ c,St 1 (vF op c):=fun c=>by
    unfold vF
    refine St.ite (hs true) (St.ite (hs false) (St.ite (Zai (k:=0) s0.sf.st) (St.ite ?_ (St.ite ?_ (St.ite ?_ (St.ite ?_ X0))))))
    ·exact St.mono (St.bind (m:=0) w1.2 fun _=>ZdN _) (by simp)
    ·exact St.mono (St.bind (m:=0) w2.2 fun _=>ZdN _) (by simp)
    ·exact St.mono (St.bind (m:=0) w3.2 fun _=>ZdN _) (by simp)
    ·exact St.bind (k:=1) (m:=0) (Zj0 Zsk) fun _=>ZdN _
  have g:Good false (hdP (.err 24 []) (vF op)):=Good.hd hf st fun c hc=>⟨20,by
    rcases ZcR hc with rfl | rfl | rfl | rfl<;>rfl⟩
  exact ⟨ZcH.bind fun _=>g,St.mono (St.bind (k:=0) (m:=1) (ZfJ _) fun _=>ZhH (fun a r h=>by cases h) st) (by omega)⟩
theorem YM:∀ n:Nat,Good false (Zy n)∧St 1 (Zy n)
  | 0=>by
    unfold Zy
    rw [Zfo (op':=fun _=>XC 23) fun b c l=>rfl]
    exact ZoO (fun _=>Hf.fail (by decide)) fun _=>X0
  | n+1=>by
    obtain ⟨hv,hs⟩:=YM n
    have h0:Zy n [] = .err 24 []:=by cases n<;>rfl
    unfold Zy
    rw [Zfo (op':=opP (Zy n)) fun b c l=>ZjN hv hs b c l]
    have lg:=fun ob=>ZpG hv hs h0 ob [] .nil
    exact ZoO (fun b=>(ZcH.bind fun _=>(lg b).1.bind fun p=>Good.okP false _).tl) fun b=>Zai (k:=0) (ZcH.bind fun _=>(lg b).1.bind fun p=>Good.okP false _).sf.st
theorem ZdR (n:Nat):Zy n [] = .err 24 []:=by cases n<;>rfl
theorem Zjo (n:Nat):Zy (n+1)=vP (opP (Zy n)):=Zfo fun b c l=>ZjN (YM n).1 (YM n).2 b c l
theorem Zkr:Zy 0=vP fun _=>XC 23:=Zfo fun b c l=>rfl
def Nz {α:Type} (p:BL→Out α):Prop:=∀ l e r,p l = .err e r→20≤e∧e≤24
section
variable {α β:Type}
theorem Nz.bind {p:BL→Out α} {f:α→BL→Out β} (hp:Nz p) (hf:∀ a,Nz (f a)):Nz fun l=>(p l).bind f:=fun l e r h=>by
  dsimp only at h
  cases h1:p l with
  | ok a l1=>rw [h1] at h;exact hf a _ _ _ h
  | err k q=>rw [h1] at h;cases h;exact hp _ _ _ h1
theorem Nz.hd {e0:Out α} {f:UInt8→BL→Out α} (h0:fin e0) (hf:∀ c,Nz (f c)):Nz (hdP e0 f):=fun l e r h=>by
  rcases l with _ | ⟨c,l⟩
  ·rcases h0 with ⟨b,h0⟩ | h0<;>(rw [show hdP e0 f []=e0 from rfl,h0] at h;cases h)
   exact ⟨by decide,by decide⟩
  ·exact hf c _ _ _ h
theorem Nz.tl {g:BL→Out α} (hg:Nz g):Nz (tlP g):=fun l e r h=>by
  rcases l with _ | ⟨c,l⟩
  ·cases h;exact ⟨by decide,by decide⟩
  ·exact hg _ _ _ h
theorem Nz.ok (a:α):Nz (okP a):=fun l e r h=>by cases h
theorem Nz.fail {e:Nat} (he:20≤e∧e≤24):Nz (XC e:BL→Out α):=fun l k r h=>by
  cases l<;>cases h
  ·exact ⟨by decide,by decide⟩
  ·exact he
theorem Nz.ite {c:Prop} [Decidable c] {p q:BL→Out α} (hp:Nz p) (hq:Nz q):Nz (if c then p else q):=by split<;>assumption
theorem Nz.got {p:BL→Out α} (hp:Nz p):Nz (ZcM p):=fun l e r h=>hp _ _ _ (ZeJ h)
end
theorem Nz.drop (P:UInt8→Bool):Nz (Zbz P):=fun l e r h=>by cases h
theorem ZhT:Nz Z0:=by rw [Zgf];exact Nz.hd (.inr rfl) fun c=>Nz.ite (Nz.drop _).tl (Nz.fail (by decide))
theorem ZuZ:Nz ZcA:=by
  have h1:Nz Zu5:=fun l e r h=>by cases h
  have h2:Nz X9:=by rw [ZiR];exact Nz.hd (.inl ⟨_,rfl⟩) fun c=>Nz.ite (Nz.fail (by decide)) (Nz.ok _)
  have h3:Nz ZeS:=by rw [Zl5];exact Nz.hd (.inr rfl) fun c=>Nz.ite h2.tl ZhT
  have h4:Nz ZcP:=by rw [Zm6];exact Nz.hd (.inl ⟨_,rfl⟩) fun c=>Nz.ite ZhT.tl (Nz.ok _)
  have h6:Nz ZuR:=fun l e r h=>by cases h
  have h5:Nz Zfm:=by rw [Zp9];exact Nz.hd (.inl ⟨_,rfl⟩) fun c=>Nz.ite (h6.bind fun _=>ZhT).tl (Nz.ok _)
  rw [ZlW]
  exact h1.bind fun _=>h3.bind fun _=>h4.bind fun _=>h5
theorem Zjn:∀ w:BL,Nz (Xo w)
  | []=>Nz.ok ()
  | c::w=>by rw [Zmv];exact Nz.hd (.inr rfl) fun d=>Nz.ite (Zjn w).tl (Nz.fail (by decide))
theorem Zst:∀ k n:Nat,Nz (ZbN k n)
  | 0,n=>Nz.ok n
  | k+1,n=>by
    rw [ZpW]
    refine Nz.hd (.inr rfl) fun c=>?_
    cases Zfd c with
    | some d=>exact (Zst k _).tl
    | none=>exact Nz.fail (by decide)
theorem ZuK:Nz Ziy:=by
  rw [ZoT]
  refine Nz.hd (.inr rfl) fun c=>?_
  cases ZaO c with
  | some m=>exact (Nz.ok _).tl
  | none=>exact Nz.ite ((Zst 4 0).bind fun n=>Nz.ok _).tl (Nz.fail (by decide))
theorem Zqk:∀ n lo hi:Nat,Nz (Zb0 n lo hi)
  | 0,_,_=>Nz.ok ()
  | n+1,lo,hi=>by rw [Zni];exact Nz.hd (.inr rfl) fun d=>Nz.ite (Zqk n _ _).tl (Nz.fail (by decide))
theorem ZsX:Nz XT:=by rw [ZmH];exact Nz.hd (.inr rfl) fun c=>Nz.ite (Nz.fail (by decide)) (Zqk _ _ _).tl
theorem ZgJ:∀ (n:Nat) (p:Option Nat) (out l:BL) (e:Nat) (r:BL),Zbd n p out l = .err e r→20≤e∧e≤24
  | 0,_,_,_,_,_,h=>by cases h;exact ⟨by decide,by decide⟩
  | n+1,p,out,[],_,_,h=>by cases h;exact ⟨by decide,by decide⟩
  | n+1,p,out,c::l,e,r,h=>by
    rw [ZaI] at h
    split at h
    ·cases h;exact ⟨by decide,by decide⟩
    split at h
    ·cases h
    split at h
    ·cases ht:Ziy l with
     | err k q=>rw [ht] at h;cases h;exact ZuK _ _ _ ht
     | ok t q=>rw [ht] at h;exact ZgJ n _ _ _ _ _ h
    split at h
    ·exact ZgJ n _ _ _ _ _ h
    ·cases ht:XT (c::l) with
     | err k q=>rw [ht] at h;cases h;exact ZsX _ _ _ ht
     | ok t q=>rw [ht] at h;exact ZgJ n _ _ _ _ _ h
theorem ZxF (p:Option Nat) (out:BL):Nz (T p out):=fun l e r h=>ZgJ _ _ _ _ _ _ h
theorem Zs9:Nz ZaM:=by
  rw [ZmU]
  have g3:∀ nm:BL,Nz (hdP (.err 24 []) fun d=>if d=58 then tlP (okP nm) else XC 20):=fun nm=>Nz.hd (.inr rfl) fun c=>Nz.ite (Nz.ok _).tl (Nz.fail (by decide))
  have g1:Nz fun l=>(Zgo l).bind fun nm l=>(Zbz Yf l).bind fun _=>hdP (.err 24 []) fun d=>if d=58 then tlP (okP nm) else XC 20:=by
    rw [Zd3]
    exact (ZxF none []).bind fun nm=>(Nz.drop _).bind fun _=>g3 nm
  exact (Nz.drop _).bind fun _=>Nz.hd (.inr rfl) fun c=>Nz.ite g1.tl (Nz.fail (by decide))
theorem Zpk {pv:BL→Out JV} (hv:Nz pv) (ob:Bool) (ns:List BL) (sub:JL):Nz (X8 pv ob ns sub):=by
  rw [ZmM]
  split
  ·exact Zs9.bind fun nm=>hv.bind fun v=>(Nz.drop _).bind fun _=>Nz.ok _
  ·exact (Nz.drop _).bind fun _=>hv.bind fun v=>(Nz.drop _).bind fun _=>Nz.ok _
theorem Zl3 {pv:BL→Out JV} (hv:Nz pv) (ob:Bool):∀ (m:Nat) (ns:List BL) (sub:JL),Nz (Zde pv ob m ns sub)
  | 0,_,_,l,e,r,h=>by cases h;exact ⟨by decide,by decide⟩
  | m+1,ns,sub,l,e,r,h=>by
    unfold Zde at h
    split at h
    ·cases h
    split at h
    ·exact ((Zpk hv ob ns sub).bind fun p=>Zl3 hv ob m p.1 p.2) _ _ _ h
    split at h
    ·exact ((Zpk hv ob ns sub).bind fun p=>Zl3 hv ob m p.1 p.2) _ _ _ h
    ·exact Nz.fail (by decide) _ _ _ h
theorem ZuI {op:Bool→BL→Out JV} (ho:∀ b,Nz (op b)):Nz (vP op):=by
  refine (Nz.drop _).bind fun _=>Nz.hd (.inr rfl) fun c=>?_
  unfold vF
  have s0:Nz (fun l=>(Zgo l).bind fun t=>okP (⟨5,t,[],.nil⟩:JV)):=by rw [Zd3];exact (ZxF none []).bind fun t=>Nz.ok _
  exact Nz.ite (ho true) (Nz.ite (ho false) (Nz.ite s0.tl (Nz.ite ((Zjn _).bind fun _=>Nz.ok _) (Nz.ite ((Zjn _).bind fun _=>Nz.ok _) (Nz.ite ((Zjn _).bind fun _=>Nz.ok _) (Nz.ite (ZuZ.got.bind fun _=>Nz.ok _) (Nz.fail (by decide))))))))
theorem Zmw:∀ n:Nat,Nz (Zy n)
  | 0=>by rw [Zkr];exact ZuI fun _=>Nz.fail (by decide)
  | n+1=>by
    rw [Zjo]
    exact ZuI fun b=>Nz.tl ((Nz.drop _).bind fun _=>Nz.bind (fun l e r h=>Zl3 (Zmw n) b _ _ _ _ _ _ h) fun p=>Nz.ok _)
theorem ZbG {l:BL} (h:l.length≤65536):XE l=match Zy 64 l with
    | .err e r=> .err e (l.length - r.length)
    | .ok v r=>match ZI r with
      | []=> .ok v
      | c::r'=> .err 25 (l.length - (c::r').length):=by
  unfold XE
  rw [if_neg (by omega)]
  rfl
theorem Zdd {l:BL} (h:65536<l.length):XE l = .err 5 65536:=by
  unfold XE
  rw [if_pos h]
theorem ZmN {l:BL} {e k:Nat} (h:XE l = .err e k):e=5∨(20≤e∧e≤25):=by
  by_cases hl:l.length≤65536
  ·rw [ZbG hl] at h
   cases h1:Zy 64 l with
   | err k q=>rw [h1] at h;cases h;have:=Zmw 64 _ _ _ h1;omega
   | ok v r =>
     rw [h1] at h
     simp only at h
     split at h
     ·cases h
     ·cases h;right;omega
  ·rw [Zdd (by omega)] at h;cases h;exact .inl rfl
theorem Zjz:∀ {v:BL} {c:UInt8} {r':BL},ZI v=c::r'→∃ y,v=y++c::r'∧Blk y∧Yf c=false
  | [],c,r',h=>by cases h
  | d::v,c,r',h=>by
    by_cases hd:Yf d=true
    ·unfold ZI at h
     rw [List.dropWhile_cons_of_pos hd] at h
     obtain ⟨y,a,b,e⟩:=Zjz h
     exact ⟨d::y,by rw [a];rfl,fun x hx=>by rcases List.mem_cons.1 hx with rfl | hx;exact hd;exact b x hx,e⟩
    ·unfold ZI at h
     rw [List.dropWhile_cons_of_neg hd] at h
     cases h
     exact ⟨[],rfl,fun x hx=>(by cases hx),by simpa using hd⟩
theorem Zju (c:UInt8) (r:BL):∀ x:BL,(x++c::r).take (x.length+1)=x++[c]
  | []=>by simp
  | d::x=>by simp only [List.cons_append,List.length_cons,List.take_succ_cons,Zju c r x]
theorem places {l:BL} {e k:Nat} (h:XE l = .err e k) (h5:e≠5):k≤l.length∧(e=24↔k=l.length) ∧
    ((∃ v,XE (l.take k) = .ok v)∨XE (l.take k) = .err 24 k)∧(e≠24→∀ o:BL,k+1+o.length≤65536→XE (l.take (k+1)++o) = .err e k):=by
  by_cases hl:l.length≤65536
  case neg=>rw [Zdd (by omega)] at h;cases h;exact absurd rfl h5
  have vg:=YM 64
  have take_k:∀ {x:BL} {c:UInt8} {r:BL},l=x++c::r→(x++c::r).length - (c::r).length=x.length:=fun e=>by simp
  have finOk:∀ {x:BL},x.length≤65536→fin (Zy 64 x)→(∃ v,XE x = .ok v)∨XE x = .err 24 x.length:=fun {x} hx hf=>by
    rw [ZbG hx]
    rcases hf with ⟨v,hv⟩ | hv
    ·rw [hv];exact .inl ⟨v,rfl⟩
    ·rw [hv];exact .inr (by simp)
  rw [ZbG hl] at h
  cases h1:Zy 64 l with
  | err k' q =>
    rw [h1] at h
    cases h
    obtain ⟨hs,h24⟩:=vg.1.sf.esuf h1
    rcases q with _ | ⟨c,r⟩
    ·have:e=24:=h24.2 rfl
     subst this
     refine ⟨by simp,by simp,?_,fun h=>absurd rfl h⟩
     simp only [List.length_nil,Nat.sub_zero,List.take_length]
     exact finOk hl (.inr h1)
    ·obtain ⟨x,rfl⟩:=hs
     rw [take_k rfl]
     have hx:x.length<(x++c::r).length:=by simp
     refine ⟨by omega,⟨fun h=>(by have:=h24.1 h;cases this),fun h=>by omega⟩,?_,fun _ o ho=>?_⟩
     ·rw [List.take_left]
      exact finOk (by omega) ((vg.1.pe (x.length+1)).cutE (by omega) h1)
     ·rw [Zju,List.append_assoc]
      show XE (x++c::o)=_
      rw [ZbG (by simp;omega),(vg.1.pe (x.length+1)).eext (by omega) h1 o]
      simp
  | ok v q =>
    rw [h1] at h
    simp only at h
    split at h
    ·cases h
    ·rename_i c r' hk
     cases h
     obtain ⟨y,rfl,hy,hc⟩:=Zjz hk
     obtain ⟨z,rfl⟩:=vg.1.sf.suf h1
     have e1:z++(y++c::r')=(z++y)++c::r':=by simp
     have e2:(z++(y++c::r')).length - (c::r').length=(z++y).length:=by simp;omega
     rw [e2]
     have hx:(z++y).length<(z++(y++c::r')).length:=by simp
     have any:∀ w:BL,Zy 64 (z++(y++c::w)) = .ok v (y++c::w):=fun w=>by
       rcases y with _ | ⟨d,y⟩
       ·exact (vg.1.pe (z.length+1)).ext (by omega) h1 w
       ·exact (vg.1.pe (z.length+1)).ok (by omega) (by simp) h1 (c::w)
     refine ⟨by omega,⟨fun h=>(by cases h),fun h=>by omega⟩,?_,fun _ o ho=>?_⟩
     ·rw [e1,List.take_left]
      left
      refine ⟨v,?_⟩
      rw [ZbG (by omega)]
      have:Zy 64 (z++y) = .ok v y:=by
        rcases y with _ | ⟨d,y⟩
        ·rw [List.append_nil]
         exact (vg.1.pe (z.length+1)).cutO (by omega) h1
        ·have:=(vg.1.pe (z.length+1)).ok (by omega) (by simp) h1 []
         simpa using this
      rw [this]
      simp only [Zq0 hy]
     ·have:(z++(y++c::r')).take ((z++y).length+1)=z++(y++[c]):=by
        rw [e1,Zju,List.append_assoc]
      rw [this,show z++(y++[c])++o=z++(y++c::o) by simp,ZbG (by simp at ho ⊢;omega),any o]
      simp only
      rw [show ZI (y++c::o)=c::o by rw [Zq1 hy];unfold ZI;rw [List.dropWhile_cons_of_neg (by simp [hc])]]
      simp only [List.length_append,List.length_cons]
      congr 1;omega
def ZpX (n:Nat):UInt8:=UInt8.ofNat (if n<10 then 48+n else 87+n)
def Zc2 (c:UInt8):BL :=
  if c=34∨c=92 then [92,c]
  else if c=8 then [92,98] else if c=12 then [92,102] else if c=10 then [92,110] else if c=13 then [92,114] else if c=9 then [92,116]
  else if c.toNat<32 then [92,117,48,48,ZpX (c.toNat / 16),ZpX (c.toNat % 16)]
  else [c]
def ZdM (t:BL):BL:=34::(t.flatMap Zc2++[34])
def prV (k:Nat) (t body:BL):BL :=
  if k=1 then [110,117,108,108] else if k=2 then [102,97,108,115,101] else if k=3 then [116,114,117,101]
  else if k=4 then t else if k=5 then ZdM t else if k=7 then 123::(body++[125]) else 91::(body++[93])
def Zlp (first:Bool):BL:=if first then [] else [44]
def nmB (ob:Bool) (ns:List BL):BL:=if ob then ZdM (ns.headD [])++[58] else []
def Z9:Bool→Bool→List BL→JL→BL
  | _,_,_,.nil=>[]
  | ob,first,ns,.cons k t ns' sub rest=>Zlp first++nmB ob ns++prV k t (Z9 (decide (k=7)) true ns' sub)++Z9 ob false ns.tail rest
def Za4 (v:JV):BL:=prV v.k v.t (Z9 (decide (v.k=7)) true v.ns v.sub)
inductive Utf:BL→Prop where
  | nil:Utf []
  | cons {x l:BL}:Zak x=true→Utf l→Utf (x++l)
def ZdL (k:Nat) (t:BL) (ns:List BL) (sub:JL):Prop :=
  ((k=1∨k=2∨k=3)∧t=[]∧ns=[]∧sub = .nil)∨(k=4∧ZcA t = .ok () []∧t.length≤65536∧ns=[]∧sub = .nil)∨(k=5∧Utf t∧ns=[]∧sub = .nil) ∨
    (k=6∧t=[]∧ns=[])∨(k=7∧t=[]∧ns.length=sub.len∧∀ n∈ns,Utf n)
def ZbE:Nat→JL→Prop
  | _,.nil=>True
  | 0,.cons k t ns sub rest=>ZdL k t ns sub∧k≠6∧k≠7∧ZbE 0 rest
  | d+1,.cons k t ns sub rest=>ZdL k t ns sub∧ZbE d sub∧ZbE (d+1) rest
def Zd8 (d:Nat) (v:JV):Prop:=ZbE d (.cons v.k v.t v.ns v.sub .nil)
theorem Zto:∀ c:UInt8,c.toNat<128→(Zc2 c=[c]∧32≤c.toNat∧c≠34∧c≠92)∨(∃ m,Zc2 c=[92,m]∧ZaO m=some c) ∨
    ∃ h l,Zc2 c=[92,117,48,48,h,l]∧∃ a b,Zfd h=some a∧Zfd l=some b∧a*16+b=c.toNat∧c.toNat<32:=by
  have key:∀ b:Fin 256,b.val<128→(Zc2 ⟨⟨b⟩⟩=[⟨⟨b⟩⟩]∧32≤b.val∧(⟨⟨b⟩⟩:UInt8)≠34∧(⟨⟨b⟩⟩:UInt8)≠92)∨(ZaO ((Zc2 ⟨⟨b⟩⟩).getD 1 0)=some ⟨⟨b⟩⟩∧Zc2 ⟨⟨b⟩⟩=[92,(Zc2 ⟨⟨b⟩⟩).getD 1 0]) ∨
      (b.val<32∧Zc2 ⟨⟨b⟩⟩=[92,117,48,48,ZpX (b.val / 16),ZpX (b.val % 16)]∧Zfd (ZpX (b.val / 16))=some (b.val / 16)∧Zfd (ZpX (b.val % 16))=some (b.val % 16)):=by decide +kernel
  rintro ⟨⟨b⟩⟩ h
  rcases key b h with h | h | h
  ·exact .inl h
  ·exact .inr (.inl ⟨_,h.2,h.1⟩)
  ·exact .inr (.inr ⟨_,_,h.2.1,_,_,h.2.2.1,h.2.2.2,by show b.val / 16*16+b.val % 16=b.val;omega,h.1⟩)
theorem ZsP {c:UInt8} (h:c.toNat<128):ZbB (ZdA c.toNat)=[c]:=by
  unfold ZdA
  rw [if_neg (by omega)]
  unfold ZbB
  rw [if_pos h]
  simp
theorem ZAW {h l:UInt8} {a b:Nat} (ha:Zfd h=some a) (hb:Zfd l=some b) (r:BL):ZbN 4 0 (48::48::h::l::r) = .ok (a*16+b) r:=by
  have h0:Zfd 48=some 0:=by decide
  simp only [ZbN,h0,ha,hb]
  congr 1
  omega
theorem Zo4 {x:BL} (hx:Zak x=true) (out r:BL):T none out (x.flatMap Zc2++r)=T none (out++x) r:=by
  rcases x with _ | ⟨c,x⟩
  ·cases hx
  by_cases hc:c.toNat<128
  ·have hx0:x=[]:=by
     simp only [Zak,ZkV c hc,Bool.and_eq_true,decide_eq_true_eq] at hx
     exact List.eq_nil_of_length_eq_zero (by omega)
   subst hx0
   simp only [List.flatMap_cons,List.flatMap_nil,List.append_nil]
   rw [ZtS]
   rcases Zto c hc with ⟨e,h32,h34,h92⟩ | ⟨m,e,hm⟩ | ⟨h,l,e,a,b,ha,hb,hab,h32⟩
   ·rw [e]
    show tF none out c (c::r)=_
    unfold tF
    rw [if_neg (by omega),if_neg h34,if_neg h92,if_pos hc]
    simp [tlP,flB]
   ·rw [e]
    show tF none out 92 (92::m::r)=_
    unfold tF
    rw [if_neg (by decide),if_neg (by decide),if_pos rfl]
    show (Ziy (m::r)).bind _=_
    rw [ZbC,hm]
    simp [Zgu,flB]
   ·rw [e]
    show tF none out 92 (92::117::48::48::h::l::r)=_
    unfold tF
    rw [if_neg (by decide),if_neg (by decide),if_pos rfl]
    show (Ziy (117::48::48::h::l::r)).bind _=_
    rw [ZbC,ZpE]
    simp only [↓reduceIte]
    rw [ZAW ha hb,hab]
    have hi:ZgB c.toNat=false:=by unfold ZgB;simp;omega
    simp only [Out.bind_ok,Zgu,hi,Bool.false_eq_true,↓reduceIte,ZsP hc]
  ·
   have h128:128≤c.toNat:=by omega
   have hl:=hx
   simp only [Zak,Bool.and_eq_true,decide_eq_true_eq] at hl
   have hn2:2≤nRb c:=by
     rcases Zsc c h128 with ⟨t0,_⟩ | ⟨_,tc,_⟩<;>omega
   have big:∀ (y:BL) (lo hi:Nat),128≤lo→okC lo hi y=true→∀ d∈y,128≤d.toNat:=by
     intro y
     induction y with
     | nil=>intro _ _ _ _ d hd;cases hd
     | cons z y ih =>
       intro lo hi hlo h d hd
       simp only [okC,Bool.and_eq_true,decide_eq_true_eq] at h
       rcases List.mem_cons.1 hd with rfl | hd
       ·omega
       ·exact ih 128 191 (Nat.le_refl _) h.2 d hd
   have all:∀ d∈c::x,128≤d.toNat:=fun d hd=>by
     rcases List.mem_cons.1 hd with rfl | hd
     ·exact h128
     ·exact big x _ _ (ZpI c hn2) hl.2 d hd
   have same:∀ y:BL,(∀ d∈y,128≤d.toNat)→y.flatMap Zc2=y:=by
     intro y
     induction y with
     | nil=>intro _;rfl
     | cons z y ih =>
       intro h
       have hz:=h z (by simp)
       rw [List.flatMap_cons,ih fun d hd=>h d (by simp [hd])]
       have:Zc2 z=[z]:=by
         have key:∀ b:Fin 256,128≤b.val→Zc2 ⟨⟨b⟩⟩=[⟨⟨b⟩⟩]:=by decide +kernel
         rcases z with ⟨⟨b⟩⟩
         exact key b hz
       rw [this];rfl
   rw [same _ all,ZtS]
   show tF none out c (c::(x++r))=_
   unfold tF
   have n34:c≠34:=fun e=>by rw [e] at h128;revert h128;decide
   have n92:c≠92:=fun e=>by rw [e] at h128;revert h128;decide
   rw [if_neg (by omega),if_neg n34,if_neg n92,if_neg hc]
   show (ZcM XT (c::x++r)).bind _=_
   unfold ZcM
   rw [ZkE hx]
   simp only [Out.bind_ok,flB,List.append_nil]
   rw [XI]
theorem ZqS {t:BL} (h:Utf t):∀ out r,T none out (t.flatMap Zc2++r)=T none (out++t) r:=by
  induction h with
  | nil=>intro out r;simp
  | cons hx _ ih =>
    intro out r
    rw [List.flatMap_append,List.append_assoc,Zo4 hx,ih,List.append_assoc]
theorem Zxf (out r:BL):T none out (34::r) = .ok out r:=by
  rw [ZtS]
  show tF none out 34 (34::r)=_
  unfold tF
  rw [if_neg (by decide),if_pos rfl]
  simp [tlP,okP,flB]
theorem ZmD {t:BL} (h:Utf t) (r:BL):Zgo (t.flatMap Zc2++34::r) = .ok t r:=by
  rw [Zd3,ZqS h,Zxf,List.nil_append]
def Zo0 (r:BL):Prop:=r=[]∨∃ c l,r=c::l∧(c=44∨c=93∨c=125)
theorem Zrm {t r:BL} (h:ZcA t = .ok () []) (hr:Zo0 r):ZcA (t++r) = .ok () r:=by
  rcases hr with rfl | ⟨c,l,rfl,hc⟩
  ·rwa [List.append_nil]
  ·have np:c≠46∧Yw c=false∧c≠101∧c≠69∧c≠43∧c≠45∧c≠48:=by
     rcases hc with rfl | rfl | rfl<;>decide
   obtain ⟨n46,nd,n101,n69,n43,n45,n48⟩:=np
   have dg:∀ {l1 q:BL},Z0 l1 = .ok () q→Z0 (l1++c::l) = .ok () (q++c::l):=fun {l1 q} hh=>by
     rcases l1 with _ | ⟨d,l1⟩
     ·cases hh
     ·dsimp only [Z0,List.cons_append] at hh ⊢
      split at hh
      ·rename_i hd
       cases hh
       rw [if_pos hd]
       congr 1
       by_cases ha:∀ x∈l1,Yw x=true
       ·rw [List.dropWhile_append_of_pos ha,Zi9.2 ha,List.dropWhile_cons_of_neg (by simp [nd])];rfl
       ·clear hd h
        induction l1 with
        | nil=>exact absurd (fun x hx=>by cases hx) ha
        | cons e l1 ih =>
          by_cases he:Yw e=true
          ·rw [List.cons_append,List.dropWhile_cons_of_pos he,List.dropWhile_cons_of_pos he]
           exact ih fun hh=>ha fun x hx=>by
             rcases List.mem_cons.1 hx with rfl | hx
             ·exact he
             ·exact hh x hx
          ·rw [List.cons_append,List.dropWhile_cons_of_neg he,List.dropWhile_cons_of_neg he];rfl
      ·cases hh
   have mn:∀ l1:BL,l1≠[]→Xb (l1++c::l)=Xb l1++c::l:=fun l1 hne=>by
     rcases l1 with _ | ⟨d,l1⟩
     ·exact absurd rfl hne
     ·dsimp only [Xb,List.cons_append]
      split<;>rfl
   have it:∀ {l1 q:BL},ZeS l1 = .ok () q→ZeS (l1++c::l) = .ok () (q++c::l):=fun {l1 q} hh=>by
     rcases l1 with _ | ⟨d,l1⟩
     ·cases hh
     ·by_cases hd:d=48
      ·subst hd
       rw [List.cons_append,show ZeS (48::(l1++c::l))=X9 (l1++c::l) from rfl]
       rw [show ZeS (48::l1)=X9 l1 from rfl] at hh
       rcases l1 with _ | ⟨e,l1⟩
       ·cases hh
        show (if Yw c=true then _ else _)=_
        rw [if_neg (by simp [nd])];rfl
       ·dsimp only [X9,List.cons_append] at hh ⊢
        split at hh
        ·cases hh
        ·rename_i he;cases hh;rw [if_neg he];rfl
      ·have e1:∀ w,ZeS (d::w)=Z0 (d::w):=fun w=>by
         show (if d=48 then _ else _)=_
         rw [if_neg hd]
       rw [List.cons_append,e1]
       rw [e1] at hh
       exact dg hh
   have fr:∀ {l1 q:BL},ZcP l1 = .ok () q→ZcP (l1++c::l) = .ok () (q++c::l):=fun {l1 q} hh=>by
     rcases l1 with _ | ⟨d,l1⟩
     ·cases hh
      show (if c=46 then _ else _)=_
      rw [if_neg n46];rfl
     ·dsimp only [ZcP,List.cons_append] at hh ⊢
      split at hh
      ·rename_i hd;rw [if_pos hd];exact dg hh
      ·rename_i hd;rw [if_neg hd];cases hh;rfl
   have ex:∀ {l1 q:BL},Zfm l1 = .ok () q→Zfm (l1++c::l) = .ok () (q++c::l):=fun {l1 q} hh=>by
     rcases l1 with _ | ⟨d,l1⟩
     ·cases hh
      show (if c=101∨c=69 then _ else _)=_
      rw [if_neg (by simp [n101,n69])];rfl
     ·dsimp only [Zfm,List.cons_append] at hh ⊢
      split at hh
      ·rename_i hd
       rw [if_pos hd]
       have sg:Zdp (l1++c::l)=Zdp l1++c::l:=by
         rcases l1 with _ | ⟨e,l1⟩
         ·cases hh
         ·dsimp only [Zdp,List.cons_append]
          split<;>rfl
       rw [sg]
       exact dg hh
      ·rename_i hd;rw [if_neg hd];cases hh;rfl
   obtain ⟨l1,l2,h1,h2,h3⟩:=ZfB h
   have hne:t≠[]:=by
     rintro rfl
     cases h1
   unfold ZcA
   rw [mn t hne,it h1]
   simp only [Out.bind_ok]
   rw [fr h2]
   simp only [Out.bind_ok]
   rw [ex h3];rfl
theorem ZmR {t:BL} (h:ZcA t = .ok () []):∃ c l,t=c::l∧(c=45∨Yw c=true):=by
  obtain ⟨l1,l2,h1,h2,h3⟩:=ZfB h
  rcases t with _ | ⟨c,t⟩
  ·cases h1
  ·refine ⟨c,t,rfl,?_⟩
   by_cases hc:c=45
   ·exact .inl hc
   ·right
    have:Xb (c::t)=c::t:=by
      show (if c=45 then _ else _)=_
      rw [if_neg hc]
    rw [this] at h1
    by_cases h48:c=48
    ·subst h48;decide
    ·have:ZeS (c::t)=Z0 (c::t):=by
       show (if c=48 then _ else _)=_
       rw [if_neg h48]
     rw [this] at h1
     dsimp only [Z0] at h1
     split at h1
     ·assumption
     ·cases h1
def ZrY:JL→JL→JL
  | .nil,b=>b
  | .cons k t ns s r,b=> .cons k t ns s (ZrY r b)
theorem Zno (v:JV) (b:JL):∀ a:JL,ZrY (a.snoc v) b=ZrY a (.cons v.k v.t v.ns v.sub b)
  | .nil=>rfl
  | .cons _ _ _ _ r=>by simp only [JL.snoc,ZrY,Zno v b r]
theorem Zqu:∀ a:JL,ZrY a .nil=a
  | .nil=>rfl
  | .cons _ _ _ _ r=>by simp only [ZrY,Zqu r]
theorem Zs7 (b:JL):ZrY .nil b=b:=rfl
theorem ZiE (v:JV) (a:JL):(a.snoc v).isNil=false:=by cases a<;>rfl
theorem ZjM {k:Nat} {t:BL} {ns:List BL} {sub:JL} (h:ZdL k t ns sub) (body:BL):∃ c l,prV k t body=c::l∧Yf c=false∧c≠44∧c≠93∧c≠125:=by
  rcases h with ⟨hk | hk | hk,_⟩ | ⟨hk,hn,_⟩ | ⟨hk,_⟩ | ⟨hk,_⟩ | ⟨hk,_⟩<;>subst hk
  ·exact ⟨_,_,rfl,by decide,by decide,by decide,by decide⟩
  ·exact ⟨_,_,rfl,by decide,by decide,by decide,by decide⟩
  ·exact ⟨_,_,rfl,by decide,by decide,by decide,by decide⟩
  ·obtain ⟨c,l,e,hc⟩:=ZmR hn
   refine ⟨c,l,e,?_,?_,?_,?_⟩
   ·cases hb:Yf c with
    | false=>rfl
    | true =>
      rcases ZcR hb with rfl | rfl | rfl | rfl<;>(rcases hc with hc | hc<;>revert hc<;>decide)
   all_goals (rintro rfl;rcases hc with hc | hc<;>revert hc<;>decide)
  ·exact ⟨_,_,rfl,by decide,by decide,by decide,by decide⟩
  ·exact ⟨_,_,rfl,by decide,by decide,by decide,by decide⟩
  ·exact ⟨_,_,rfl,by decide,by decide,by decide,by decide⟩
theorem X2 {c:UInt8} {l:BL} (h:Yf c=false):ZI (c::l)=c::l:=by
  unfold ZI;rw [List.dropWhile_cons_of_neg (by simp [h])]
theorem ZiO {n:Nat} {k:Nat} {t:BL} {ns:List BL} {sub:JL} (h:ZdL k t ns sub) (h6:k≠6) (h7:k≠7) (body:BL) {r:BL} (hr:Zo0 r) :
    Zy n (prV k t body++r) = .ok ⟨k,t,ns,sub⟩ r:=by
  have go:∀ op,vP op (prV k t body++r) = .ok ⟨k,t,ns,sub⟩ r:=fun op=>by
    obtain ⟨c,l,e,hb,_⟩:=ZjM h body
    show hdP _ (vF op) (ZI (prV k t body++r))=_
    rw [show ZI (prV k t body++r)=prV k t body++r by rw [e];exact X2 hb]
    rcases h with ⟨hk,ht,hns,hsub⟩ | ⟨hk,hn,_,hns,hsub⟩ | ⟨hk,hu,hns,hsub⟩ | ⟨hk,_⟩ | ⟨hk,_⟩
    ·subst ht hns hsub
     rcases hk with hk | hk | hk<;>subst hk<;>rfl
    ·subst hk hns hsub
     obtain ⟨c,l,e,hc⟩:=ZmR hn
     show hdP _ (vF op) (t++r)=_
     have hg:ZcM ZcA (t++r) = .ok t r:=by unfold ZcM;rw [Zrm hn hr];simp only [Out.bind_ok];rw [XI]
     rw [e] at hg ⊢
     show vF op c (c::(l++r))=_
     have hne:c≠123∧c≠91∧c≠34∧c≠110∧c≠102∧c≠116:=by
       refine ⟨?_,?_,?_,?_,?_,?_⟩<;>(rintro rfl;rcases hc with hc | hc<;>revert hc<;>decide)
     obtain ⟨a1,a2,a3,a4,a5,a6⟩:=hne
     unfold vF
     rw [if_neg a1,if_neg a2,if_neg a3,if_neg a4,if_neg a5,if_neg a6,if_pos hc]
     show (ZcM ZcA (c::l++r)).bind _=_
     rw [hg];rfl
    ·subst hk hns hsub
     show vF op 34 (34::(t.flatMap Zc2++[34]++r))=_
     unfold vF
     rw [if_neg (by decide),if_neg (by decide),if_pos rfl]
     show (Zgo (t.flatMap Zc2++[34]++r)).bind _=_
     rw [List.append_assoc,show ([34]:BL)++r=34::r from rfl,ZmD hu];rfl
    ·exact absurd hk h6
    ·exact absurd hk h7
  cases n with
  | zero=>rw [Zkr];exact go _
  | succ n=>rw [Zjo];exact go _
theorem ZnO (ob:Bool) (ns:List BL) (rest:JL) (r:BL):Zo0 (Z9 ob false ns rest++Zb3 ob::r):=by
  right
  cases rest with
  | nil=>exact ⟨_,_,rfl,by cases ob<;>simp [Zb3]⟩
  | cons k t ns' sub rest=>exact ⟨44,_,rfl,.inl rfl⟩
theorem ZkX {n:Nat} (hv:∀ k t ns sub r,ZbE n (.cons k t ns sub .nil)→Zo0 r→Zy n (prV k t (Z9 (decide (k=7)) true ns sub)++r) = .ok ⟨k,t,ns,sub⟩ r) (ob:Bool) (r:BL) :
    ∀ (rest:JL) (ns ns0:List BL) (sub0:JL),ZbE n rest→(ob=true→ns.length=rest.len∧∀ m∈ns,Utf m)→(ob=false→ns=[]) →
      L (Zy n) ob ns0 sub0 (Z9 ob sub0.isNil ns rest++Zb3 ob::r) = .ok (ns0++ns,ZrY sub0 rest) r
  | .nil,ns,ns0,sub0,_,h1,h2=>by
    have hn:ns=[]:=by
      cases ob with
      | false=>exact h2 rfl
      | true=>exact List.eq_nil_of_length_eq_zero (by rw [(h1 rfl).1];rfl)
    subst hn
    rw [Zov (YM n).1 (YM n).2 (ZdR n)]
    show lF (Zy n) ob ns0 sub0 (Zb3 ob) (Zb3 ob::r)=_
    unfold lF
    rw [if_pos rfl,Zqu,List.append_nil];rfl
  | .cons k t ns' sub rest,ns,ns0,sub0,hr,h1,h2=>by
    have hr1:ZbE n (.cons k t ns' sub .nil)∧ZbE n rest∧ZdL k t ns' sub:=by
      cases n with
      | zero=>exact ⟨⟨hr.1,hr.2.1,hr.2.2.1,trivial⟩,hr.2.2.2,hr.1⟩
      | succ n=>exact ⟨⟨hr.1,hr.2.1,trivial⟩,hr.2.2,hr.1⟩
    obtain ⟨hr1,hr2,hk⟩:=hr1
    have ih:=fun ns1 sub1=>ZkX hv ob r rest ns.tail ns1 sub1 hr2
    have hst:=ZnO ob ns.tail rest r
    obtain ⟨c,l,ec,hb,hc44,hc93,hc125⟩:=ZjM hk (Z9 (decide (k=7)) true ns' sub)
    have part:X8 (Zy n) ob ns0 sub0 (nmB ob ns++prV k t (Z9 (decide (k=7)) true ns' sub)++(Z9 ob false ns.tail rest++Zb3 ob::r)) =
        .ok (if ob then ns0++[ns.headD []] else ns0,sub0.snoc ⟨k,t,ns',sub⟩) (Z9 ob false ns.tail rest++Zb3 ob::r):=by
      have hsk:ZI (Z9 ob false ns.tail rest++Zb3 ob::r)=Z9 ob false ns.tail rest++Zb3 ob::r:=by
        cases rest with
        | nil=>exact X2 (by cases ob<;>decide)
        | cons k2 t2 ns2 sub2 rest2=>exact X2 (c:=44) (by decide)
      have hv1:=hv k t ns' sub _ hr1 hst
      cases ob with
      | false =>
        show (Zy n (ZI _)).bind _=_
        have hs2:ZI (prV k t (Z9 (decide (k=7)) true ns' sub)++(Z9 false false ns.tail rest++Zb3 false::r))=prV k t (Z9 (decide (k=7)) true ns' sub)++(Z9 false false ns.tail rest++Zb3 false::r):=by rw [ec];exact X2 hb
        rw [show nmB false ns=[] from rfl,List.nil_append,hs2,hv1]
        simp only [Out.bind_ok,hsk];rfl
      | true =>
        have hu:Utf (ns.headD []):=by
          cases ns with
          | nil=>exact .nil
          | cons a ns=>exact (h1 rfl).2 a (by simp)
        show (ZaM _).bind _=_
        have hnm:∀ w,ZaM (nmB true ns++w) = .ok (ns.headD []) w:=fun w=>by
          rw [show nmB true ns++w=34::((ns.headD []).flatMap Zc2++34::(58::w)) by simp [nmB,ZdM]]
          unfold ZaM
          rw [X2 (by decide)]
          simp only [↓reduceIte]
          rw [ZmD hu]
          simp only [Out.bind_ok]
          rw [X2 (by decide)]
          simp
        rw [List.append_assoc,hnm]
        simp only [Out.bind_ok]
        rw [hv1]
        simp only [Out.bind_ok,hsk];rfl
    have fin:L (Zy n) ob (if ob then ns0++[ns.headD []] else ns0) (sub0.snoc ⟨k,t,ns',sub⟩) (Z9 ob false ns.tail rest++Zb3 ob::r) = .ok (ns0++ns,ZrY sub0 (.cons k t ns' sub rest)) r:=by
      have:=ih (if ob then ns0++[ns.headD []] else ns0) (sub0.snoc ⟨k,t,ns',sub⟩) (fun h=>by
          subst h
          obtain ⟨a,b⟩:=h1 rfl
          cases ns with
          | nil=>cases a
          | cons m ns=>exact ⟨by simpa [JL.len] using a,fun x hx=>b x (by simp at hx;simp [hx])⟩) (fun h=>by rw [h2 h];rfl)
      rw [ZiE,Zno] at this
      rw [this]
      congr 2
      cases ob with
      | false=>rw [h2 rfl];rfl
      | true =>
        cases ns with
        | nil=>have:=(h1 rfl).1;cases this
        | cons m ns=>simp
    rw [Zov (YM n).1 (YM n).2 (ZdR n)]
    have first:∀ w:BL,∃ d l2,nmB ob ns++prV k t (Z9 (decide (k=7)) true ns' sub)++w=d::l2∧d≠Zb3 ob:=fun w=>by
      cases ob with
      | false=>rw [ec];exact ⟨c,_,rfl,hc93⟩
      | true=>exact ⟨34,_,rfl,by decide⟩
    show hdP _ _ (Zlp sub0.isNil++nmB ob ns++prV k t (Z9 (decide (k=7)) true ns' sub)++Z9 ob false ns.tail rest++Zb3 ob::r)=_
    cases hs:sub0.isNil with
    | true =>
      rw [show Zlp true++nmB ob ns++prV k t (Z9 (decide (k=7)) true ns' sub)++Z9 ob false ns.tail rest++Zb3 ob::r=nmB ob ns++prV k t (Z9 (decide (k=7)) true ns' sub)++(Z9 ob false ns.tail rest++Zb3 ob::r) by simp [Zlp]]
      obtain ⟨d,l2,e2,hd⟩:=first (Z9 ob false ns.tail rest++Zb3 ob::r)
      rw [e2] at part ⊢
      show lF (Zy n) ob ns0 sub0 d (d::l2)=_
      unfold lF
      rw [if_neg hd,if_pos hs]
      show (X8 (Zy n) ob ns0 sub0 (d::l2)).bind _=_
      rw [part]
      exact fin
    | false =>
      rw [show Zlp false++nmB ob ns++prV k t (Z9 (decide (k=7)) true ns' sub)++Z9 ob false ns.tail rest++Zb3 ob::r=44::(nmB ob ns++prV k t (Z9 (decide (k=7)) true ns' sub)++(Z9 ob false ns.tail rest++Zb3 ob::r)) by simp [Zlp]]
      show lF (Zy n) ob ns0 sub0 44 (44::_)=_
      unfold lF
      rw [if_neg (by cases ob<;>decide),if_neg (by simp [hs]),if_pos rfl]
      show (X8 (Zy n) ob ns0 sub0 _).bind _=_
      rw [part]
      exact fin
theorem Ziu:∀ (n:Nat) (k:Nat) (t:BL) (ns:List BL) (sub:JL) (r:BL),ZbE n (.cons k t ns sub .nil)→Zo0 r→Zy n (prV k t (Z9 (decide (k=7)) true ns sub)++r) = .ok ⟨k,t,ns,sub⟩ r
  | 0,k,t,ns,sub,r,h,hr=>ZiO h.1 h.2.1 h.2.2.1 _ hr
  | n+1,k,t,ns,sub,r,h,hr=>by
    have lists:∀ ob:Bool,k=(if ob then 7 else 6)→t=[]→(ob=true→ns.length=sub.len∧∀ m∈ns,Utf m)→(ob=false→ns=[])→Zy (n+1) (prV k t (Z9 (decide (k=7)) true ns sub)++r) = .ok ⟨k,t,ns,sub⟩ r:=fun ob hk ht h1 h2=>by
      subst ht
      have hl:=ZkX (fun k t ns sub r=>Ziu n k t ns sub r) ob r sub ns [] .nil h.2.1 h1 h2
      have hsk:ZI (Z9 ob true ns sub++Zb3 ob::r)=Z9 ob true ns sub++Zb3 ob::r:=by
        cases sub with
        | nil=>exact X2 (by cases ob<;>decide)
        | cons k2 t2 ns2 sub2 rest2 =>
          have hk2:ZdL k2 t2 ns2 sub2:=by
            have:=h.2.1
            cases n<;>exact this.1
          cases ob with
          | true=>exact X2 (c:=34) (by decide)
          | false =>
            obtain ⟨c,l,e,hb,_⟩:=ZjM hk2 (Z9 (decide (k2=7)) true ns2 sub2)
            show ZI (Zlp true++nmB false ns++prV k2 t2 _++_++_)=Zlp true++nmB false ns++prV k2 t2 _++_++_
            rw [e]
            exact X2 hb
      have hopen:opP (Zy n) ob ((if ob then 123 else 91)::(Z9 ob true ns sub++Zb3 ob::r)) = .ok ⟨k,[],ns,sub⟩ r:=by
        show (L (Zy n) ob [] .nil (ZI (Z9 ob true ns sub++Zb3 ob::r))).bind _=_
        rw [hsk]
        rw [show Z9 ob true ns sub=Z9 ob (JL.nil).isNil ns sub from rfl,hl,Zs7]
        rw [hk]
        rfl
      rw [Zjo]
      show hdP _ (vF _) (ZI _)=_
      cases ob with
      | true =>
        simp only [↓reduceIte] at hk
        subst hk
        rw [show prV 7 [] (Z9 (decide (7=7)) true ns sub)++r=123::(Z9 true true ns sub++Zb3 true::r) by simp [prV,Zb3],X2 (by decide)]
        exact hopen
      | false =>
        simp only [Bool.false_eq_true,↓reduceIte] at hk
        subst hk
        rw [show prV 6 [] (Z9 (decide (6=7)) true ns sub)++r=91::(Z9 false true ns sub++Zb3 false::r) by simp [prV,Zb3],X2 (by decide)]
        exact hopen
    by_cases h6:k=6
    ·refine lists false h6 ?_ (fun h=>by cases h) fun _=>?_
     ·rcases h.1 with ⟨hk,_⟩ | ⟨hk,_⟩ | ⟨hk,_⟩ | ⟨_,ht,_⟩ | ⟨_,ht,_⟩
      ·omega
      ·omega
      ·omega
      ·exact ht
      ·exact ht
     ·rcases h.1 with ⟨hk,_⟩ | ⟨hk,_⟩ | ⟨hk,_⟩ | ⟨_,_,hn⟩ | ⟨hk,_⟩
      ·omega
      ·omega
      ·omega
      ·exact hn
      ·omega
    by_cases h7:k=7
    ·rcases h.1 with ⟨hk,_⟩ | ⟨hk,_⟩ | ⟨hk,_⟩ | ⟨hk,_⟩ | ⟨_,ht,hn⟩
     ·omega
     ·omega
     ·omega
     ·omega
     ·exact lists true h7 ht (fun _=>hn) fun h=>by cases h
    ·exact ZiO h.1 h6 h7 _ hr
theorem ZnU {v:JV} (h:Zd8 64 v) (hl:(Za4 v).length≤65536):XE (Za4 v) = .ok v:=by
  rw [ZbG hl]
  have:=Ziu 64 v.k v.t v.ns v.sub [] h (.inl rfl)
  rw [List.append_nil] at this
  unfold Za4
  rw [this]
  rfl
theorem Utf.app {a b:BL} (ha:Utf a) (hb:Utf b):Utf (a++b):=by
  induction ha with
  | nil=>exact hb
  | cons hx _ ih=>rw [List.append_assoc];exact .cons hx ih
theorem Utf.one {x:BL} (h:Zak x=true):Utf x:=by
  have:=Utf.cons h .nil
  rwa [List.append_nil] at this
theorem Zl7 {c:UInt8} {d:Nat} (h:Zfd c=some d):d<16:=by
  unfold Zfd at h
  split at h
  ·cases h;omega
  split at h
  ·cases h;omega
  split at h
  ·cases h;omega
  ·cases h
theorem ZhG:∀ (k:Nat) {n m:Nat} {l r:BL},ZbN k n l = .ok m r→m<(n+1)*16 ^ k
  | 0,n,m,_,_,h=>by cases h;omega
  | k+1,n,m,[],_,h=>by cases h
  | k+1,n,m,c::l,r,h=>by
    unfold ZbN at h
    cases hd:Zfd c with
    | none=>simp only [hd] at h;cases h
    | some d =>
      simp only [hd] at h
      have h1:=ZhG k h
      have h2:=Zl7 hd
      have h3:n*16+d+1≤(n+1)*16:=by omega
      have h4:(n*16+d+1)*16 ^ k≤((n+1)*16)*16 ^ k:=Nat.mul_le_mul_right _ h3
      rw [Nat.pow_succ]
      have h5:(n+1)*16*16 ^ k=(n+1)*(16 ^ k*16):=by rw [Nat.mul_assoc,Nat.mul_comm 16]
      omega
theorem ZbV {n:Nat} (h:n<256):(UInt8.ofNat n).toNat=n:=by simp;omega
theorem ZgH {n:Nat} (h:n<1114112) (hs:n<55296∨57344≤n):Zak (ZbB n)=true:=by
  unfold ZbB
  split
  ·rename_i h1
   have:=ZkV (UInt8.ofNat n) (by rw [ZbV (by omega)];exact h1)
   simp [Zak,this,okC]
  split
  ·rename_i h1 h2
   have ht:ZfV (UInt8.ofNat (192+n / 64)).toNat=(2,128,191):=by
     rw [ZbV (by omega)];unfold ZfV;rw [if_neg (by omega),if_pos (by omega)]
   have hb:(UInt8.ofNat (128+n % 64)).toNat=128+n % 64:=ZbV (by omega)
   simp only [Zak,nRb,loR,hiR,ht,okC,hb,Bool.and_eq_true,decide_eq_true_eq,List.length_cons,List.length_nil,and_true]
   omega
  split
  ·rename_i h1 h2 h3
   have b1:(UInt8.ofNat (224+n / 4096)).toNat=224+n / 4096:=ZbV (by omega)
   have b2:(UInt8.ofNat (128+n / 64 % 64)).toNat=128+n / 64 % 64:=ZbV (by omega)
   have b3:(UInt8.ofNat (128+n % 64)).toNat=128+n % 64:=ZbV (by omega)
   have ht:ZfV (UInt8.ofNat (224+n / 4096)).toNat=(3,if n / 4096=0 then 160 else 128,if n / 4096=13 then 159 else 191):=by
     rw [b1];unfold ZfV
     rw [if_neg (by omega),if_neg (by omega)]
     by_cases c0:n / 4096=0
     ·rw [if_pos (by omega),if_pos c0,if_neg (by omega)]
     ·rw [if_neg (by omega),if_neg c0]
      by_cases c13:n / 4096=13
      ·rw [if_pos (by omega),if_pos c13]
      ·rw [if_neg (by omega),if_pos (by omega),if_neg c13]
   simp only [Zak,nRb,loR,hiR,ht,okC,b2,b3,Bool.and_eq_true,decide_eq_true_eq,List.length_cons,List.length_nil,and_true]
   refine ⟨by omega,⟨?_,?_⟩,by omega⟩
   ·split<;>omega
   ·split<;>omega
  ·rename_i h1 h2 h3
   have b1:(UInt8.ofNat (240+n / 262144)).toNat=240+n / 262144:=ZbV (by omega)
   have b2:(UInt8.ofNat (128+n / 4096 % 64)).toNat=128+n / 4096 % 64:=ZbV (by omega)
   have b3:(UInt8.ofNat (128+n / 64 % 64)).toNat=128+n / 64 % 64:=ZbV (by omega)
   have b4:(UInt8.ofNat (128+n % 64)).toNat=128+n % 64:=ZbV (by omega)
   have ht:ZfV (UInt8.ofNat (240+n / 262144)).toNat=(4,if n / 262144=0 then 144 else 128,if n / 262144=4 then 143 else 191):=by
     rw [b1];unfold ZfV
     rw [if_neg (by omega),if_neg (by omega),if_neg (by omega),if_neg (by omega),if_neg (by omega)]
     by_cases c0:n / 262144=0
     ·rw [if_pos (by omega),if_pos c0,if_neg (by omega)]
     ·rw [if_neg (by omega),if_neg c0]
      by_cases c4:n / 262144=4
      ·rw [if_neg (by omega),if_pos (by omega),if_pos c4]
      ·rw [if_pos (by omega),if_neg c4]
   simp only [Zak,nRb,loR,hiR,ht,okC,b2,b3,b4,Bool.and_eq_true,decide_eq_true_eq,List.length_cons,List.length_nil,and_true]
   refine ⟨by omega,⟨?_,?_⟩,by omega⟩
   ·split<;>omega
   ·split<;>omega
theorem Zp4 {k:Nat} (h:k<65536):Zak (ZbB (ZdA k))=true:=by
  unfold ZdA
  split
  ·exact ZgH (by decide) (.inr (by decide))
  ·exact ZgH (by omega) (by omega)
theorem Zj3:Zak (ZbB 65533)=true:=ZgH (by decide) (.inr (by decide))
theorem Zrq:∀ c m:UInt8,ZaO c=some m→m.toNat<128:=by
  intro c m h
  unfold ZaO at h
  repeat' split at h
  all_goals (cases h;try decide)
theorem Zpq {c:UInt8} (h:c.toNat<128):Zak [c]=true:=by simp [Zak,ZkV c h,okC]
theorem Zvo (p:Option Nat):Utf (flB p):=by
  cases p with
  | none=>exact .nil
  | some n=>exact Utf.one Zj3
theorem ZgI:∀ (n:Nat) (p:Option Nat) (out l t r:BL),Utf out→(∀ k,p=some k→ZgB k=true)→Zbd n p out l = .ok t r→Utf t
  | 0,_,_,_,_,_,_,_,h=>by cases h
  | n+1,p,out,[],_,_,_,_,h=>by cases h
  | n+1,p,out,c::l,t,r,ho,hp,h=>by
    have hof:Utf (out++flB p):=ho.app (Zvo p)
    rw [ZaI] at h
    split at h
    ·cases h
    split at h
    ·cases h;exact hof
    split at h
    ·cases ht:Ziy l with
     | err k q=>rw [ht] at h;cases h
     | ok k q =>
       rw [ht] at h
       have hk:(∀ j,(Zgu p out k).1=some j→ZgB j=true)∧Utf (Zgu p out k).2:=by
         cases k with
         | ch m =>
           refine ⟨fun j hj=>(by cases hj),hof.app (Utf.one (Zpq ?_))⟩
           rcases l with _ | ⟨d,l⟩
           ·cases ht
           ·rw [ZbC] at ht
            cases hm:ZaO d with
            | some m'=>rw [hm] at ht;cases ht;exact Zrq _ _ hm
            | none =>
              rw [hm] at ht
              simp only at ht
              split at ht
              ·obtain ⟨_,_,_,h2⟩:=ZO ht;cases h2
              ·cases ht
         | uni m =>
           have hm:m<65536:=by
             rcases l with _ | ⟨d,l⟩
             ·cases ht
             ·rw [ZbC] at ht
              cases hm:ZaO d with
              | some m'=>rw [hm] at ht;cases ht
              | none =>
                rw [hm] at ht
                simp only at ht
                split at ht
                ·obtain ⟨x,l1,h1,h2⟩:=ZO ht
                 cases h2
                 have:=ZhG 4 h1
                 omega
                ·cases ht
           cases p with
           | none =>
             unfold Zgu
             simp only
             split
             ·rename_i hh;exact ⟨fun j hj=>by cases hj;exact hh,ho⟩
             ·exact ⟨fun j hj=>(by cases hj),ho.app (Utf.one (Zp4 hm))⟩
           | some k =>
             have hk:=hp k rfl
             unfold Zgu
             simp only
             split
             ·rename_i hl
              refine ⟨fun j hj=>(by cases hj),ho.app (Utf.one (ZgH ?_ (.inr ?_)))⟩
              ·simp [ZgB,Zkn] at hk hl;unfold ZeQ;omega
              ·unfold ZeQ;omega
             split
             ·rename_i hh;exact ⟨fun j hj=>by cases hj;exact hh,ho.app (Utf.one Zj3)⟩
             ·exact ⟨fun j hj=>(by cases hj),(ho.app (Utf.one Zj3)).app (Utf.one (Zp4 hm))⟩
       exact ZgI n _ _ _ _ _ hk.2 hk.1 h
    split at h
    ·rename_i hc
     exact ZgI n _ _ _ _ _ (hof.app (Utf.one (Zpq hc))) (fun k hk=>by cases hk) h
    ·cases ht:XT (c::l) with
     | err k q=>rw [ht] at h;cases h
     | ok k q =>
       rw [ht] at h
       obtain ⟨x,e,hx⟩:=Zhc ht
       refine ZgI n _ _ _ _ _ (hof.app (Utf.one ?_)) (fun k hk=>by cases hk) h
       rw [e,XI]
       exact hx
theorem ZoY {l t r:BL} (h:Zgo l = .ok t r):Utf t:=by
  rw [Zd3] at h
  exact ZgI _ _ _ _ _ _ .nil (fun k hk=>by cases hk) h
theorem Zti {l t r:BL} (h:ZcM ZcA l = .ok t r):ZcA t = .ok () []∧t.length+r.length=l.length:=by
  obtain ⟨⟨a,h1⟩,e⟩:=Zei h
  obtain ⟨x,rfl⟩:=ZeE.sf.suf h1
  rw [XI] at e
  subst e
  refine ⟨?_,by simp⟩
  rcases r with _ | ⟨c,r⟩
  ·rwa [List.append_nil] at h1
  ·exact (ZeE.pe (t.length+1)).cutO (by omega) h1
def ZdQ:JL→Nat
  | .nil=>0
  | .cons _ _ _ sub rest=>1+ZdQ sub+ZdQ rest
def ZfO (v:JV):Nat:=1+ZdQ v.sub
theorem Zke (v:JV):∀ l:JL,ZdQ (l.snoc v)=ZdQ l+ZfO v
  | .nil=>by simp [JL.snoc,ZdQ,ZfO]
  | .cons _ _ _ _ r=>by simp only [JL.snoc,ZdQ,Zke v r];omega
theorem ZeA {d:Nat} {v:JV} (hv:Zd8 d v):∀ {l:JL},ZbE d l→ZbE d (l.snoc v)
  | .nil,_=>hv
  | .cons k t ns s r,h=>by
    cases d with
    | zero=>exact ⟨h.1,h.2.1,h.2.2.1,ZeA hv h.2.2.2⟩
    | succ d=>exact ⟨h.1,h.2.1,ZeA hv h.2.2⟩
theorem ZnY {l nm r:BL} (h:ZaM l = .ok nm r):Utf nm∧r.length+1≤l.length:=by
  refine ⟨?_,ZfD.2.len h⟩
  unfold ZaM at h
  split at h
  ·split at h
   ·obtain ⟨t,l2,h1,h2⟩:=ZO h
    split at h2
    ·split at h2
     ·cases h2;exact ZoY h1
     ·cases h2
    ·cases h2
   ·cases h
  ·cases h
theorem Za8 (l:BL):(ZI l).length≤l.length:=(ZkB l).length_le
def Zh4 (d:Nat) (ob:Bool) (ns:List BL) (sub:JL):Prop:=ZbE d sub∧(ob=true→ns.length=sub.len∧∀ m∈ns,Utf m)∧(ob=false→ns=[])
theorem ZiU {d:Nat} (hv:∀ l v r,l.length≤65536→Zy d l = .ok v r→Zd8 d v∧ZfO v+r.length≤l.length) (ob:Bool):∀ (m:Nat) (ns:List BL) (sub:JL) (l:BL) (p:List BL × JL) (r:BL),
    l.length≤65536→Zh4 d ob ns sub→Zde (Zy d) ob m ns sub l = .ok p r→Zh4 d ob p.1 p.2∧ZdQ p.2+r.length≤ZdQ sub+l.length
  | 0,_,_,_,_,_,_,_,h=>by cases h
  | m+1,ns,sub,l,p,r,hlen,ho,h=>by
    have part:∀ l' q w,l'.length≤65536→X8 (Zy d) ob ns sub l' = .ok q w→Zh4 d ob q.1 q.2∧ZdQ q.2+w.length≤ZdQ sub+l'.length:=fun l' q w hlq hq=>by
      unfold X8 at hq
      split at hq
      ·rename_i hob
       obtain ⟨nm,l3,h1,h2⟩:=ZO hq
       obtain ⟨v,l4,h3,h4⟩:=ZO h2
       cases h4
       obtain ⟨a,b⟩:=ZnY h1
       obtain ⟨c,e⟩:=hv _ _ _ (by omega) h3
       obtain ⟨o1,o2,o3⟩:=ho
       refine ⟨⟨ZeA c o1,fun _=>⟨?_,?_⟩,fun hh=>?_⟩,?_⟩
       ·simp only [List.length_append,JL.len_snoc,(o2 hob).1,List.length_singleton]
       ·intro x hx
        rcases List.mem_append.1 hx with hx | hx
        ·exact (o2 hob).2 x hx
        ·simp at hx;rw [hx];exact a
       ·rw [hob] at hh;cases hh
       ·dsimp only
        rw [Zke]
        have:=Za8 l4
        omega
      ·rename_i hob
       obtain ⟨v,l4,h3,h4⟩:=ZO hq
       cases h4
       obtain ⟨c,e⟩:=hv _ _ _ (by have:=Za8 l';omega) h3
       obtain ⟨o1,o2,o3⟩:=ho
       refine ⟨⟨ZeA c o1,fun hh=>absurd hh hob,fun hh=>o3 hh⟩,?_⟩
       dsimp only
       rw [Zke]
       have:=Za8 l4
       have:=Za8 l'
       omega
    have go:∀ l',l'.length≤l.length→((X8 (Zy d) ob ns sub l').bind fun p l2=>Zde (Zy d) ob m p.1 p.2 l2) = .ok p r→Zh4 d ob p.1 p.2∧ZdQ p.2+r.length≤ZdQ sub+l.length:=fun l' hl hq=>by
      obtain ⟨q,w,h1,h2⟩:=ZO hq
      obtain ⟨a,b⟩:=part _ _ _ (by omega) h1
      have:=(ZbF (YM d).1 (YM d).2 ob ns sub).2.len h1
      obtain ⟨c,e⟩:=ZiU hv ob m _ _ _ _ _ (by omega) a h2
      exact ⟨c,by omega⟩
    unfold Zde at h
    split at h
    ·cases h;exact ⟨ho,by simp⟩
    split at h
    ·exact go _ (Nat.le_refl _) h
    split at h
    ·exact go _ (by simp) h
    ·cases l<;>cases h
theorem Zhp {op:Bool→BL→Out JV} {d:Nat} (hop:∀ b c l v r,(c::l).length≤65536→op b (c::l) = .ok v r→Zd8 d v∧ZfO v+r.length≤(c::l).length):∀ l v r,l.length≤65536→ZcW op l = .ok v r→Zd8 d v∧ZfO v+r.length≤l.length:=by
  intro l v r hlen h
  have hsk:=Za8 l
  have rj:∀ {k:Nat} {t:BL},ZdL k t [] .nil→k≠6→k≠7→Zd8 d ⟨k,t,[],.nil⟩:=fun {k t} hk h6 h7=>by
    cases d with
    | zero=>exact ⟨hk,h6,h7,trivial⟩
    | succ d=>exact ⟨hk,trivial,trivial⟩
  unfold ZcW at h
  split at h
  ·cases h
  ·rename_i c l1 e
   rw [e] at hsk
   split at h
   ·have:=hop _ _ _ _ _ (by omega) h;exact ⟨this.1,by omega⟩
   split at h
   ·have:=hop _ _ _ _ _ (by omega) h;exact ⟨this.1,by omega⟩
   split at h
   ·obtain ⟨t,r1,h1,h2⟩:=ZO h
    cases h2
    have hl:r.length+1≤l1.length:=by rw [Zd3] at h1;exact (ZvR none []).len h1
    exact ⟨rj (.inr (.inr (.inl ⟨rfl,ZoY h1,rfl,rfl⟩))) (by decide) (by decide),by simp [ZfO,ZdQ] at hsk ⊢;omega⟩
   split at h
   ·obtain ⟨t,r1,h1,h2⟩:=ZO h
    cases h2
    have hl:=(ZcD [110,117,108,108] (by decide)).2.len h1
    exact ⟨rj (.inl ⟨.inl rfl,rfl,rfl,rfl⟩) (by decide) (by decide),by simp [ZfO,ZdQ] at hsk hl ⊢;omega⟩
   split at h
   ·obtain ⟨t,r1,h1,h2⟩:=ZO h
    cases h2
    have hl:=(ZcD [102,97,108,115,101] (by decide)).2.len h1
    exact ⟨rj (.inl ⟨.inr (.inl rfl),rfl,rfl,rfl⟩) (by decide) (by decide),by simp [ZfO,ZdQ] at hsk hl ⊢;omega⟩
   split at h
   ·obtain ⟨t,r1,h1,h2⟩:=ZO h
    cases h2
    have hl:=(ZcD [116,114,117,101] (by decide)).2.len h1
    exact ⟨rj (.inl ⟨.inr (.inr rfl),rfl,rfl,rfl⟩) (by decide) (by decide),by simp [ZfO,ZdQ] at hsk hl ⊢;omega⟩
   split at h
   ·obtain ⟨t,r1,h1,h2⟩:=ZO h
    cases h2
    have hg:ZcM ZcA (c::l1) = .ok (ZdZ (c::l1) r) r:=by unfold ZcM;rw [h1];rfl
    obtain ⟨a,b⟩:=Zti hg
    have hl:=Zsk.len h1
    exact ⟨rj (.inr (.inl ⟨rfl,a,by omega,rfl,rfl⟩)) (by decide) (by decide),by simp [ZfO,ZdQ] at hsk hl ⊢;omega⟩
   ·cases h
theorem ZgZ:∀ (d:Nat) (l:BL) (v:JV) (r:BL),l.length≤65536→Zy d l = .ok v r→Zd8 d v∧ZfO v+r.length≤l.length
  | 0,l,v,r,hlen,h=>Zhp (op:=fun _ l=>XC 23 l) (fun b c l v r _ h=>by cases h) l v r hlen h
  | d+1,l,v,r,hlen,h=>by
    refine Zhp (op:=ZjO (Zy d)) (fun b c l v r hl h=>?_) l v r hlen h
    obtain ⟨p,q,h1,h2⟩:=ZO h
    cases h2
    have hs:=Za8 l
    have h0:Zh4 d b [] .nil:=⟨by cases d<;>exact trivial,fun _=>⟨rfl,fun m hm=>by cases hm⟩,fun _=>rfl⟩
    obtain ⟨⟨o1,o2,o3⟩,o4⟩:=ZiU (ZgZ d) b _ _ _ _ _ _ (by simp at hl ⊢;omega) h0 h1
    refine ⟨⟨?_,o1,trivial⟩,?_⟩
    ·cases b with
     | true=>exact .inr (.inr (.inr (.inr ⟨rfl,rfl,o2 rfl⟩)))
     | false=>exact .inr (.inr (.inr (.inl ⟨rfl,rfl,o3 rfl⟩)))
    ·have e:ZdQ JL.nil=0:=rfl
     have hs':(ZI (c::l).tail).length≤l.length:=hs
     simp only [ZfO,List.length_cons]
     omega
theorem Ze5 {l:BL} {v:JV} (h:XE l = .ok v):Zd8 64 v∧ZfO v≤65536∧l.length≤65536:=by
  by_cases hl:l.length≤65536
  ·rw [ZbG hl] at h
   cases h1:Zy 64 l with
   | err k q=>rw [h1] at h;cases h
   | ok w r =>
     rw [h1] at h
     simp only at h
     obtain ⟨a,b⟩:=ZgZ 64 l w r hl h1
     split at h
     ·cases h
      exact ⟨a,by omega,hl⟩
     ·cases h
  ·rw [Zdd (by omega)] at h;cases h
end Go.Js
namespace Go.Proofs.YtpjbjdheeemdiaaGreatDoor
open Go Go.Fw Go.Js
theorem ZgW {n:Int} (h0 : -2147483648≤n) (h1:n≤2147483647):IntKind.wrap .i32 n=n:=by
  unfold IntKind.wrap
  have hb:(2:Int) ^ IntKind.i32.bits=4294967296:=by decide
  have hb':(2:Int) ^ (IntKind.i32.bits - 1)=2147483648:=by decide
  have hs:IntKind.i32.signed=true:=rfl
  simp only [hb,hb',hs,Bool.true_and]
  rcases Int.lt_or_le n 0 with h | h
  ·have:n % 4294967296=n+4294967296:=by omega
   rw [this,if_pos (by simp;omega)]
   omega
  ·have:n % 4294967296=n:=by omega
   rw [this,if_neg (by simp;omega)]
theorem ZsL {n:Int} (h0:0≤n) (h1:n<4294967296):IntKind.wrap .u32 n=n:=by
  unfold IntKind.wrap
  have hb:(2:Int) ^ IntKind.u32.bits=4294967296:=by decide
  have hs:IntKind.u32.signed=false:=rfl
  simp only [hb,hs,Bool.false_and,Bool.false_eq_true,if_false]
  omega
theorem ZuQ {n k:Nat} (hk:k≤20) (h:n*2 ^ k<2147483648):ZmF .i32 (n:Int) (k:Int)=((n*2 ^ k:Nat):Int):=by
  unfold ZmF
  rw [Int.toNat_natCast,show min k IntKind.i32.bits=k from Nat.min_eq_left (by show k≤32;omega)]
  rw [show (n:Int)*2 ^ k=((n*2 ^ k:Nat):Int) by push_cast;rfl,ZgW (by omega) (by omega)]
theorem ZAT {a d:Nat} (ha:a*16<2147483648) (hd:d<16):orV .i32 ((a*16:Nat):Int) (d:Int)=((a*16+d:Nat):Int):=by
  unfold orV
  have hb:IntKind.i32.bits=32:=rfl
  rw [hb,BitVec.ofInt_natCast,BitVec.ofInt_natCast,BitVec.toNat_or,BitVec.toNat_ofNat,BitVec.toNat_ofNat,Nat.mod_eq_of_lt (by omega),Nat.mod_eq_of_lt (by omega)]
  have h1:a*16+d=a*16 ||| d:=by
    have:=Nat.shiftLeft_add_eq_or_of_lt (b:=d) (i:=4) (by omega) a
    rwa [Nat.shiftLeft_eq] at this
  rw [← h1,ZgW (by omega) (by omega)]
theorem ZhF {N c:Nat} {d:Nat} (hN:N<65536) (hd:d<16) {x:Int} (hx:x=(d:Int)):orV .i32 (ZmF .i32 (N:Int) 4) (IntKind.wrap .i32 x)=((N*16+d:Nat):Int):=by
  subst hx
  rw [show ((4:Int))=((4:Nat):Int) from rfl,ZuQ (by omega) (by omega),ZgW (by omega) (by omega)]
  exact ZAT (by omega) hd
theorem ZnD {n k:Nat} (hk:k≤20):Zh5 .i32 (n:Int) (k:Int)=((n / 2 ^ k:Nat):Int):=by
  unfold Zh5
  rw [Int.toNat_natCast,show min k IntKind.i32.bits=k from Nat.min_eq_left (by show k≤32;omega)]
  have:(2:Int) ^ k=((2 ^ k:Nat):Int):=by push_cast;rfl
  rw [this,Int.fdiv_eq_ediv_of_nonneg _ (Int.natCast_nonneg _)]
  rfl
theorem w8 (n:Nat):IntKind.wrap .u8 (n:Int)=((n % 256:Nat):Int):=by rw [ZoD];rfl
theorem Zxd {a:Nat} (ha:a<256):Zh1 .u8 (a:Int) 63=((a % 64:Nat):Int):=by
  have:∀ b:Fin 256,Zh1 .u8 ((b.val:Nat):Int) 63=((b.val % 64:Nat):Int):=by decide +kernel
  exact this ⟨a,ha⟩
theorem ZwV {a:Nat} (ha:a<64):orV .u8 128 (a:Int)=((128+a:Nat):Int):=by
  have:∀ b:Fin 64,orV .u8 128 ((b.val:Nat):Int)=((128+b.val:Nat):Int):=by decide +kernel
  exact this ⟨a,ha⟩
theorem ZwU {a:Nat} (ha:a<32):orV .u8 192 (a:Int)=((192+a:Nat):Int):=by
  have:∀ b:Fin 32,orV .u8 192 ((b.val:Nat):Int)=((192+b.val:Nat):Int):=by decide +kernel
  exact this ⟨a,ha⟩
theorem ZwT {a:Nat} (ha:a<16):orV .u8 224 (a:Int)=((224+a:Nat):Int):=by
  have:∀ b:Fin 16,orV .u8 224 ((b.val:Nat):Int)=((224+b.val:Nat):Int):=by decide +kernel
  exact this ⟨a,ha⟩
theorem ZwS {a:Nat} (ha:a<8):orV .u8 240 (a:Int)=((240+a:Nat):Int):=by
  have:∀ b:Fin 8,orV .u8 240 ((b.val:Nat):Int)=((240+b.val:Nat):Int):=by decide +kernel
  exact this ⟨a,ha⟩
theorem Zlk {n:Nat} (h:n<256):Value.int .u8 (n:Int)=bv (UInt8.ofNat n):=by
  unfold bv;rw [ZbV h]
theorem Zdj (n:Nat):Value.int .u8 (orV .u8 128 (Zh1 .u8 (IntKind.wrap .u8 (n:Int)) 63))=bv (UInt8.ofNat (128+n % 64)):=by
  rw [w8,Zxd (by omega),ZwV (by omega),show n % 256 % 64=n % 64 by omega]
  exact Zlk (by omega)
theorem Zdg (c:UInt8):(48≤c.toNat∧c.toNat≤57∧Zfd c=some (c.toNat - 48))∨(¬ (48≤c.toNat∧c.toNat≤57)∧97≤c.toNat∧c.toNat≤102∧Zfd c=some (c.toNat - 87)) ∨
    (¬ (48≤c.toNat∧c.toNat≤57)∧¬ (97≤c.toNat∧c.toNat≤102)∧65≤c.toNat∧c.toNat≤70∧Zfd c=some (c.toNat - 55)) ∨
    (¬ (48≤c.toNat∧c.toNat≤57)∧¬ (97≤c.toNat∧c.toNat≤102)∧¬ (65≤c.toNat∧c.toNat≤70)∧Zfd c=none):=by
  unfold Zfd
  by_cases h1:48≤c.toNat∧c.toNat≤57
  ·rw [if_pos h1];exact .inl ⟨h1.1,h1.2,rfl⟩
  rw [if_neg h1]
  by_cases h2:97≤c.toNat∧c.toNat≤102
  ·rw [if_pos h2];exact .inr (.inl ⟨h1,h2.1,h2.2,rfl⟩)
  rw [if_neg h2]
  by_cases h3:65≤c.toNat∧c.toNat≤70
  ·rw [if_pos h3];exact .inr (.inr (.inl ⟨h1,h2,h3.1,h3.2,rfl⟩))
  ·rw [if_neg h3];exact .inr (.inr (.inr ⟨h1,h2,h3,rfl⟩))
theorem ZfG (k n:Nat) (c:UInt8) (l:BL):ZbN (k+1) n (c::l)=match Zfd c with
    | some d=>ZbN k (n*16+d) l
    | none=> .err 22 (c::l):=rfl
theorem Zm0 {h:Ze} {R:Nat} {s:ByteArray} {l:BL} (hr:Rd h R s l) {K:Int→HP} {P:Value→HP}
    (hok:∀ (n:Nat) r h',ZbN 4 0 l = .ok n r→Rd h' R s r→Upd (· = R) h h'→sz h'=sz h→K n h') (herr:OnE h R s (· = R) (ZbN 4 0 l) P):X4 (At R) K P h:=by
  unfold X4 Zb7
  refine Za (Za ?_)
  refine ZB (fun p h'=>∃ (N k:Nat) (l':BL),p.1=N∧p.2.1=((4 - k:Nat):Int)∧k≤4∧N<16 ^ (4 - k)∧ZbN k N l'=ZbN 4 0 l∧Rd h' R s l'∧Upd (· = R) h h'∧sz h'=sz h) (fun p _=>(4 - p.2.1).toNat) ⟨0,4,l,rfl,rfl,by omega,by decide,rfl,hr,Upd.refl _ _,rfl⟩ ?_
  rintro ⟨n1,s5,u⟩ h2 ⟨N,k,l2,e1,e2,hk,hN,q2,r2,u2,z2⟩
  dsimp only at e1 e2 ⊢
  subst e1 e2
  refine Zi (fun hlt=>?_) fun hge=>?_
  ·obtain ⟨k,rfl⟩:∃ k',k=k'+1:=⟨k - 1,by omega⟩
   have hN2:N<65536:=by
     have:16 ^ (4 - (k+1))≤16 ^ 4:=Nat.pow_le_pow_right (by decide) (by omega)
     omega
   refine Y1 r2 (Za ?_)
   refine Zm (fun p h'=>h'=h2∧∃ c l3 d,l2=c::l3∧Zfd c=some d∧p.1=((N*16+d:Nat):Int)) ?_ ?_
   ·rintro ⟨n,u⟩ h3 ⟨rfl,c,l3,d,rfl,hd,hn⟩
    dsimp only at hn ⊢
    subst hn
    refine Zbw r2 fun h4 r4 u4 z4=>?_
    rw [ZG (by omega) (by omega)]
    refine ⟨⟨N*16+d,k,l3,rfl,by omega,by omega,?_,?_,r4,u2.trans u4,z4.trans z2⟩,by omega⟩
    ·have h16:=Zl7 hd
     rw [show 4 - k=(4 - (k+1))+1 by omega,Nat.pow_succ]
     omega
    ·rw [← q2,ZfG,hd]
   ·
    have bad:(∀ c l3,l2=c::l3→Zfd c=none)→∀ e' r,(XC 22 l2:Out Nat) = .err e' r→r=l2→P (ZcV e' (s.size - r.length)) h2:=fun hno e' r he hr'=>by
      refine herr e' r h2 ?_ u2
      rw [← q2,← he]
      rcases l2 with _ | ⟨c,l3⟩
      ·rfl
      ·rw [ZfG,hno c l3 rfl];rfl
    refine Zm (fun p h'=>h'=h2∧p.1=decide (48≤Xp l2∧Xp l2≤57)) ?_ ?_
    ·rintro ⟨b,u⟩ h3 ⟨rfl,hb⟩
     dsimp only at hb ⊢
     subst hb
     rcases l2 with _ | ⟨c,l3⟩
     ·refine Zl (by simp [Xp]) ?_
      have hf:=bad fun c l3 e=>by cases e
      refine Zl (by simp [Xp]) (Zl (by simp [Xp]) (Zag r2 rfl hf))
     ·have hz:Xp (c::l3)=(c.toNat:Int):=rfl
      generalize Xp (c::l3)=z at hz ⊢
      subst hz
      rcases Zdg c with ⟨a1,a2,hd⟩ | ⟨a0,a1,a2,hd⟩ | ⟨a0,b0,a1,a2,hd⟩ | ⟨a0,b0,c0,hd⟩
      ·refine Zn (by simp;omega) ⟨by decide,Za ⟨rfl,c,l3,_,rfl,hd,ZhF (c:=0) hN2 (by omega) ?_⟩⟩
       rw [Zh8 (by omega) (by omega)];omega
      ·refine Zl (by simp;omega) (Zn (by simp;omega) (Zd (Zn (by simp;omega) ⟨by decide,Za ⟨rfl,c,l3,_,rfl,hd,ZhF (c:=0) hN2 (by omega) ?_⟩⟩)))
       rw [Zh8 (n:=(c.toNat:Int) - 97) (by omega) (by omega),Zh8 (by omega) (by omega)];omega
      ·refine Zl (by simp;omega) (Zl (by simp;omega) (Zn (by simp;omega) (Zd (Zn (by simp;omega) ⟨by decide,Za ⟨rfl,c,l3,_,rfl,hd,ZhF (c:=0) hN2 (by omega) ?_⟩⟩))))
       rw [Zh8 (n:=(c.toNat:Int) - 65) (by omega) (by omega),Zh8 (by omega) (by omega)];omega
      ·have hf:=bad fun c' l3' e=>by cases e;exact hd
       refine Zl (by simp;omega) (Zi (fun h97=>Zd (Zl (by simp;omega) (Zn (by simp;omega) (Zd (Zl (by simp;omega) (Zag r2 rfl hf)))))) fun h97=>Zi (fun h65=>Zd (Zl (by simp;omega) (Zag r2 rfl hf))) fun h65=>Zag r2 rfl hf)
    ·refine Zi (fun h48=>Zd ⟨rfl,?_⟩) fun h48=>⟨rfl,?_⟩
     ·simp;omega
     ·simp;omega
  ·obtain rfl:k=0:=by omega
   refine Za (hok N l2 h2 ?_ r2 u2 z2)
   rw [← q2];rfl
theorem ZdY (n:Nat):(ZbB n).length≤4:=by
  unfold ZbB
  split
  ·exact Nat.le_of_ble_eq_true rfl
  split
  ·exact Nat.le_of_ble_eq_true rfl
  split
  ·exact Nat.le_of_ble_eq_true rfl
  ·exact Nat.le_of_ble_eq_true rfl
theorem Zh0 {h:Ze} {base:Nat} {x:Sl} {l:BL} {n:Nat} (hb:Buf h base x l) (hbase:base≤sz h) (hn:n<1114112) (hsur:n<55296∨57344≤n) (hs:l.length+4≤1000000000) {K:Sl→HP}
    (hk:∀ x' h',Buf h' base x' (l++ZbB n)→Upd (fun k=>base≤k) h h'→sz h≤sz h'→K x' h'):Yy x n K h:=by
  unfold Yy XV
  have go:∀ (new:BL) (cells:List Value) (m:Nat) (K':Sl→HP),ZbB n=new→cells=new.map bv→m=new.length→(∀ x' h',K' x' h'↔K x' h') →
      newC h cells 5 fun b h1=>rdS ⟨some ⟨b,0,none⟩,m,m⟩ 1 h1 fun nw=>Fw.app 5 1 1 [.int .u8 0] x m nw h1 K':=by
    intro new cells m K' hu hc hm hK
    have h4:(ZbB n).length≤4:=ZdY n
    rw [hu] at h4
    refine Zu2 new m hc hm.symm (by omega) fun b h1 hr e1 _=>hr.rd ?_
    have hx:=hb.congr (h':=h1) fun k hk hl=>YB e1 hl
    have hsz:=e1.size
    refine hx.app (by have:sz h1=h1.size:=rfl;have:sz h=h.size:=rfl;omega) hm rfl (by omega) fun x' h6 hx6 u6 z6=>(hK _ _).2 (hk x' h6 (by rw [hu];exact hx6) ((e1.upd _).trans u6) (by have:sz h1=h1.size:=rfl;have:sz h=h.size:=rfl;omega))
  have w:IntKind.wrap .u32 (n:Int)=n:=ZsL (by omega) (by omega)
  rw [w]
  refine Zi (fun h1=>?_) fun h1=>?_
  ·refine go [UInt8.ofNat n] _ 1 _ (by unfold ZbB;rw [if_pos (by omega)]) ?_ rfl fun _ _=>Iff.rfl
   rw [w8,show n % 256=n by omega,Zlk (by omega)];rfl
  ·unfold Yh YI
   rw [w]
   refine Za (Zd (Zi (fun h2=>⟨by decide,?_⟩) fun h2=>?_))
   ·refine go [UInt8.ofNat (192+n / 64),UInt8.ofNat (128+n % 64)] _ 2 _ (by unfold ZbB;rw [if_neg (by omega),if_pos (by omega)]) ?_ rfl fun _ _=>Iff.rfl
    rw [Zdj,show ((6:Int))=((6:Nat):Int) from rfl,ZnD (by omega),w8,show n / 2 ^ 6 % 256=n / 64 by omega,ZwU (by omega),Zlk (by omega)];rfl
   ·refine Zm (fun p h'=>h'=h∧p.1=decide (n≤65535)) ?_ ?_
    ·rintro ⟨b,u⟩ h3 ⟨rfl,hb3⟩
     dsimp only at hb3 ⊢
     subst hb3
     refine Zi (fun h4=>⟨by decide,by decide,?_⟩) fun h4=>Zn (by simp;omega) (Zd (Zn (by simp;omega) ⟨by decide,by decide,by decide,?_⟩))
     ·refine go [UInt8.ofNat (224+n / 4096),UInt8.ofNat (128+n / 64 % 64),UInt8.ofNat (128+n % 64)] _ 3 _ (by unfold ZbB;rw [if_neg (by omega),if_neg (by omega),if_pos (by omega)]) ?_ rfl fun _ _=>Iff.rfl
      rw [Zdj,show ((6:Int))=((6:Nat):Int) from rfl,show ((12:Int))=((12:Nat):Int) from rfl,ZnD (k:=12) (by omega),ZnD (k:=6) (by omega),Zdj,w8,show n / 2 ^ 12 % 256=n / 4096 by omega,show n / 2 ^ 6=n / 64 by rfl,ZwT (by omega),Zlk (by omega)];rfl
     ·refine go [UInt8.ofNat (240+n / 262144),UInt8.ofNat (128+n / 4096 % 64),UInt8.ofNat (128+n / 64 % 64),UInt8.ofNat (128+n % 64)] _ 4 _ (by unfold ZbB;rw [if_neg (by omega),if_neg (by omega),if_neg (by omega)]) ?_ rfl fun _ _=>Iff.rfl
      rw [Zdj,show ((6:Int))=((6:Nat):Int) from rfl,show ((12:Int))=((12:Nat):Int) from rfl,show ((18:Int))=((18:Nat):Int) from rfl,ZnD (k:=18) (by omega),ZnD (k:=12) (by omega),ZnD (k:=6) (by omega),Zdj,Zdj,w8,show n / 2 ^ 18 % 256=n / 262144 by omega,show n / 2 ^ 6=n / 64 by rfl,show n / 2 ^ 12=n / 4096 by rfl,ZwS (by omega),Zlk (by omega)];rfl
    ·refine Zd (Zi (fun h5=>⟨rfl,?_⟩) fun h5=>Zn (by simp;omega) (Zd ⟨rfl,?_⟩))
     ·simp;omega
     ·simp;omega
theorem ZeU {h:Ze} {B:Nat} {T:TypeId} {out:BL} (hb:Bld h B T out) {n:Nat} (hn:n<1114112) (hsur:n<55296∨57344≤n) {n0:Int} (hn0:n0=n) (hs:out.length<900000000) {K:Int→Value→HP} (hk:∀ i h',Bld h' B T (out++ZbB n)→Upd (fun k=>B≤k) h h'→K i .nilIface h'):Yr (At B) n0 K h:=by
  subst hn0
  unfold Yr Xw
  refine Za (ZhY hb fun h1 x b1 u1 c1 hx z1=>ZX (rL (Zr c1 rfl) (Za (ZX (rL (Zr c1 rfl) ?_)))))
  refine Zh0 hx (by have:=b1.lt;omega) hn hsur (by omega) fun x' h6 hx6 u6 z6=>?_
  exact Zmg b1.1 c1 u6 hx6 fun h9 b9 u9 c9=>ZX (rL (Zr c9 rfl) (Za (hk _ h9 b9 (u1.trans u9))))
end Go.Proofs.YtpjbjdheeemdiaaGreatDoor
