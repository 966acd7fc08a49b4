/- The reader's words, one by one, keep what JsX asks. No program. -/
import Derived.Test.YtpjbjdheeemdiaaGreatDoorPa9
set_option linter.unusedVariables false
set_option linter.unusedSimpArgs false
namespace Go.Js
open Go
structure Hf {α:Type} (s:Bool) (p:BL→Out α):Prop where
  sf:Sf p
  pe:∀ n,Pe n p
  pb:∀ n,Pb n s p
structure Good {α:Type} (s:Bool) (p:BL→Out α):Prop extends Hf s p where
  bn:Bn s p
section
variable {α β:Type}
theorem Pe.mono {m n:Nat} {p:BL→Out α} (h:Pe n p) (hm:m≤n):Pe m p :=
  ⟨fun hx=>h.ext (by omega),fun hx=>h.eext (by omega),fun hx=>h.cutO (by omega),fun hx=>h.cutE (by omega)⟩
theorem Pb.mono {m n:Nat} {s:Bool} {p:BL→Out α} (h:Pb n s p) (hm:m≤n):Pb m s p :=
  ⟨fun hx=>h.bl (by omega),fun hx=>h.blo (by omega)⟩
theorem Good.tl {s:Bool} {g:BL→Out α} (h:Good s g):Hf s (tlP g) :=
  ⟨ZvC h.sf,fun n=>(Zjk h.sf (h.pe n)).mono (Nat.le_succ n),fun n=>(Zjl (h.pb n) h.bn).mono (Nat.le_succ n)⟩
theorem Good.okP (s:Bool) (a:α):Good s (Js.okP a):=⟨⟨Zqb a,fun _=>Zqc a,fun _=>Zqd s a⟩,Zqe s a⟩
theorem Hf.fail {s:Bool} {e:Nat} (he:e≠24):Hf s (XW e:BL→Out α):=⟨Zsm he,fun _=>ZkM,fun _=>ZkN he⟩
theorem Hf.ite {s:Bool} {c:Prop} [Decidable c] {p q:BL→Out α} (hp:Hf s p) (hq:Hf s q):Hf s (if c then p else q):=by split<;>assumption
theorem St.ite {k:Nat} {c:Prop} [Decidable c] {p q:BL→Out α} (hp:St k p) (hq:St k q):St k (if c then p else q):=by split<;>assumption
theorem St.mono {k m:Nat} {p:BL→Out α} (h:St k p) (hm:m≤k):St m p:=⟨fun e=>by have:=h.len e;omega⟩
theorem ZrF {p:BL→Out α} (h:St 1 p) {l r:BL} {a:α} (e:p l = .ok a r) (hl:l.length≤r.length) {P:Prop}:P:=by have:=h.len e;omega
theorem Hf.hd {s:Bool} {f:UInt8→BL→Out α} (hf:∀ c,Hf s (f c)) (hs:∀ c,St 1 (f c)):Hf s (hdP (.err 24 []) f) :=
  ⟨Zte (.inr rfl) fun c=>(hf c).sf,fun n=>ZnD (.inl rfl) (fun c r b h=>ZrF (hs c) h (Nat.le_refl _)) fun c=>(hf c).pe n,fun n=>ZnE fun c=>(hf c).pb n⟩
theorem Hf.hdO {s:Bool} {a0:α} {f:UInt8→BL→Out α} (hf:∀ c,Hf s (f c)) (hs:∀ c,St 1 (f c)∨f c=Js.okP a0):Hf s (hdP (.ok a0 []) f):=by
  refine ⟨Zte (.inl ⟨a0,rfl⟩) fun c=>(hf c).sf,fun n=>ZnD (.inr ⟨a0,rfl,fun c r b h=>?_⟩) (fun c r b h h2=>by cases h2) fun c=>(hf c).pe n,fun n=>ZnE fun c=>(hf c).pb n⟩
  rcases hs c with h1 | h1
  ·exact ZrF h1 h (Nat.le_refl _)
  ·rw [h1] at h;cases h;rfl
theorem Good.hd {s:Bool} {f:UInt8→BL→Out α} (hf:∀ c,Hf s (f c)) (hs:∀ c,St 1 (f c)) (hb:∀ c,Yp c=true→∃ e,f c=XW e):Good s (hdP (.err 24 []) f):=⟨Hf.hd hf hs,Zwb hb⟩
theorem Good.hdO {s:Bool} {a0:α} {f:UInt8→BL→Out α} (hf:∀ c,Hf s (f c)) (hs:∀ c,St 1 (f c)∨f c=Js.okP a0) (hb:∀ c,Yp c=true→f c=Js.okP a0):Good s (hdP (.ok a0 []) f):=⟨Hf.hdO hf hs,Zt2 hb⟩
theorem Hf.bind {s s':Bool} {p:BL→Out α} {f:α→BL→Out β} (hp:Hf s p) (hf:∀ a,Good s' (f a)):Hf (s&&s') fun l=>(p l).bind f :=
  ⟨hp.sf.bind fun a=>(hf a).sf,fun n=>Pe.bind (m:=n) (k:=0) (hp.pe n) hp.sf hp.sf.st (fun a=>(hf a).pe n) fun a=>(hf a).sf,
   fun n=>Pb.bind (m:=n) (k:=0) (hp.pe n) (hp.pb n) hp.sf hp.sf.st (fun a=>(hf a).pb n) fun a=>(hf a).bn⟩
theorem Good.bind {s s':Bool} {p:BL→Out α} {f:α→BL→Out β} (hp:Good s p) (hf:∀ a,Good s' (f a)):Good (s&&s') fun l=>(p l).bind f :=
  ⟨hp.toHf.bind hf,hp.bn.bind hp.sf fun a=>(hf a).bn⟩
theorem Good.got {p:BL→Out α} (h:Good true p):Good true (Zdn p):=⟨⟨ZmK h.sf,fun n=>ZmL (h.pe n),fun n=>ZqJ (h.pb n)⟩,Zt5 h.bn⟩
end
theorem Zdg:Good false (Zca Yp):=⟨⟨ZkT _,fun _=>ZnQ _,fun _=>Zsu _⟩,Zsv _⟩
theorem Zsw:Good true (Zca Xn):=⟨⟨ZkT _,fun _=>ZnQ _,fun _=>ZqW⟩,ZqX⟩
theorem ZgP:Ym=hdP (.err 24 []) fun c=>if Xn c then tlP (Zca Xn) else XW 21:=by
  funext l
  rcases l with _ | ⟨c,l⟩
  ·rfl
  ·dsimp only [Ym,hdP]
   split<;>rfl
theorem ZiA:St 1 Ym:=by
  rw [ZgP]
  exact Zil (fun a r h=>by cases h) fun c=>St.ite (ZaN (Zgc _)) Zao
theorem Zef:Good true Ym:=by
  rw [ZgP]
  refine Good.hd (fun c=>Hf.ite Zsw.tl (Hf.fail (by decide))) (fun c=>St.ite (ZaN (Zgc _)) Zao) fun c hc=>⟨21,?_⟩
  rcases Zdr hc with rfl | rfl | rfl | rfl<;>rfl
def ZvU:BL→Out Unit:=fun l=> .ok () (Zal l)
theorem ZtV:ZvU=hdP (.ok () []) fun c=>if c=45 then tlP (okP ()) else okP ():=by
  funext l
  rcases l with _ | ⟨c,l⟩
  ·rfl
  ·dsimp only [ZvU,Zal,hdP]
   split<;>rfl
theorem Znx:Good true ZvU:=by
  rw [ZtV]
  refine Good.hdO (fun c=>Hf.ite (Good.okP _ _).tl (Good.okP _ _).toHf) (fun c=>?_) fun c hc=>?_
  ·by_cases h:c=45
   ·left;rw [if_pos h];exact ZaN (Zen _)
   ·right;rw [if_neg h]
  ·rcases Zdr hc with rfl | rfl | rfl | rfl<;>rfl
def ZvH:BL→Out Unit:=fun l=> .ok () (Zfm l)
theorem ZtH:ZvH=hdP (.ok () []) fun c=>if c=43∨c=45 then tlP (okP ()) else okP ():=by
  funext l
  rcases l with _ | ⟨c,l⟩
  ·rfl
  ·dsimp only [ZvH,Zfm,hdP]
   split<;>rfl
theorem Znm:Good true ZvH:=by
  rw [ZtH]
  refine Good.hdO (fun c=>Hf.ite (Good.okP _ _).tl (Good.okP _ _).toHf) (fun c=>?_) fun c hc=>?_
  ·by_cases h:c=43∨c=45
   ·left;rw [if_pos h];exact ZaN (Zen _)
   ·right;rw [if_neg h]
  ·rcases Zdr hc with rfl | rfl | rfl | rfl<;>rfl
theorem ZjC:Za3=hdP (.ok () []) fun c=>if Xn c then XW 21 else okP ():=by
  funext l
  rcases l with _ | ⟨c,l⟩
  ·rfl
  ·dsimp only [Za3,hdP]
   split<;>rfl
theorem ZfF:Good true Za3:=by
  rw [ZjC]
  refine Good.hdO (fun c=>Hf.ite (Hf.fail (by decide)) (Good.okP _ _).toHf) (fun c=>?_) fun c hc=>?_
  ·by_cases h:Xn c=true
   ·left;rw [if_pos h];exact Zao
   ·right;rw [if_neg h]
  ·rcases Zdr hc with rfl | rfl | rfl | rfl<;>rfl
theorem ZmI:ZfJ=hdP (.err 24 []) fun c=>if c=48 then tlP Za3 else Ym:=by
  funext l
  rcases l with _ | ⟨c,l⟩
  ·rfl
  ·dsimp only [ZfJ,hdP]
   split<;>rfl
theorem Zv9:St 1 ZfJ:=by
  rw [ZmI]
  exact Zil (fun a r h=>by cases h) fun c=>St.ite (ZaN ZfF.sf.st) ZiA
theorem Zwa:Hf true ZfJ:=by
  rw [ZmI]
  exact Hf.hd (fun c=>Hf.ite ZfF.tl Zef.toHf) fun c=>St.ite (ZaN ZfF.sf.st) ZiA
theorem Zsc:Good true ZfJ:=by
  refine ⟨Zwa,fun {b} _ hb=>?_,fun {b a} h=>by cases h⟩
  rcases b with _ | ⟨c,b⟩
  ·exact ⟨24,[],rfl,List.suffix_refl _⟩
  ·refine ⟨21,c::b,?_,List.suffix_refl _⟩
   rcases Zdr (hb c (by simp)) with rfl | rfl | rfl | rfl<;>rfl
theorem ZnI:ZdS=hdP (.ok () []) fun c=>if c=46 then tlP Ym else okP ():=by
  funext l
  rcases l with _ | ⟨c,l⟩
  ·rfl
  ·dsimp only [ZdS,hdP]
   split<;>rfl
theorem ZlL:Good true ZdS:=by
  rw [ZnI]
  refine Good.hdO (fun c=>Hf.ite Zef.tl (Good.okP _ _).toHf) (fun c=>?_) fun c hc=>?_
  ·by_cases h:c=46
   ·left;rw [if_pos h];exact St.mono (ZaN ZiA) (by omega)
   ·right;rw [if_neg h]
  ·rcases Zdr hc with rfl | rfl | rfl | rfl<;>rfl
theorem ZqT:Zgi=hdP (.ok () []) fun c=>if c=101∨c=69 then tlP (fun l=>(ZvH l).bind fun _=>Ym) else okP ():=by
  funext l
  rcases l with _ | ⟨c,l⟩
  ·rfl
  ·dsimp only [Zgi,hdP]
   split<;>rfl
theorem ZnM:Good true Zgi:=by
  rw [ZqT]
  refine Good.hdO (fun c=>Hf.ite (Znm.bind fun _=>Zef).tl (Good.okP _ _).toHf) (fun c=>?_) fun c hc=>?_
  ·by_cases h:c=101∨c=69
   ·left;rw [if_pos h];exact ZaN (k:=0) (Znm.bind fun _=>Zef).sf.st
   ·right;rw [if_neg h]
  ·rcases Zdr hc with rfl | rfl | rfl | rfl<;>rfl
theorem ZmB:ZdN=fun l=>(ZvU l).bind fun _ l=>(ZfJ l).bind fun _ l=>(ZdS l).bind fun _=>Zgi:=rfl
theorem Zfe:Good true ZdN:=by
  rw [ZmB]
  exact Znx.bind fun _=>Zsc.bind fun _=>ZlL.bind fun _=>ZnM
theorem Zs3:St 1 ZdN:=by
  rw [ZmB]
  exact St.mono (St.bind (k:=0) (m:=1) Znx.sf.st fun _=>St.bind (k:=1) (m:=0) Zv9 fun _=>(ZlL.bind fun _=>ZnM).sf.st) (by omega)
theorem Znc (c:UInt8) (w:BL):XL (c::w)=hdP (.err 24 []) fun d=>if d=c then tlP (XL w) else XW 20:=by
  funext l
  rcases l with _ | ⟨d,l⟩
  ·rfl
  ·dsimp only [XL,hdP]
   split<;>rfl
theorem Zdc:∀ (w:BL),(∀ c∈w,Yp c=false)→Good true (XL w)∧St w.length (XL w)
  | [],_=>⟨Good.okP true (),Zen ()⟩
  | c::w,h=>by
    obtain ⟨a,b⟩:=Zdc w fun d hd=>h d (by simp [hd])
    rw [Znc]
    refine ⟨Good.hd (fun d=>Hf.ite a.tl (Hf.fail (by decide))) (fun d=>St.ite (St.mono (ZaN b) (by omega)) Zao) fun d hd=>⟨20,?_⟩,Zil (fun a r h=>by cases h) fun d=>St.ite (ZaN b) Zao⟩
    rw [if_neg]
    intro e
    rw [e,h c (by simp)] at hd
    cases hd
theorem ZqG (k n:Nat):Zcl (k+1) n=hdP (.err 24 []) fun c=>match ZfK c with
    | some d=>tlP (Zcl k (n*16+d))
    | none=>XW 22:=by
  funext l
  rcases l with _ | ⟨c,l⟩
  ·rfl
  ·dsimp only [Zcl,hdP]
   cases ZfK c<;>rfl
theorem Zhp:∀ (k n:Nat),Good true (Zcl k n)∧St k (Zcl k n)
  | 0,n=>⟨Good.okP true n,Zen n⟩
  | k+1,n=>by
    rw [ZqG]
    have ih:=fun m=>Zhp k m
    refine ⟨Good.hd (fun c=>?_) (fun c=>?_) fun c hc=>⟨22,?_⟩,Zil (fun a r h=>by cases h) fun c=>?_⟩
    ·cases ZfK c with
     | some d=>exact (ih _).1.tl
     | none=>exact Hf.fail (by decide)
    ·cases ZfK c with
     | some d=>exact St.mono (ZaN (ih _).2) (by omega)
     | none=>exact Zao
    ·rcases Zdr hc with rfl | rfl | rfl | rfl<;>rfl
    ·cases ZfK c with
     | some d=>exact ZaN (ih _).2
     | none=>exact Zao
theorem ZpB:Zjj=hdP (.err 24 []) fun c=>match Zbr c with
    | some m=>tlP (okP (.ch m))
    | none=>if c=117 then tlP (fun l=>(Zcl 4 0 l).bind fun n=>okP (.uni n)) else XW 22:=by
  funext l
  rcases l with _ | ⟨c,l⟩
  ·rfl
  ·dsimp only [Zjj,hdP]
   cases Zbr c with
   | some m=>rfl
   | none=>dsimp only;split<;>rfl
theorem Zbl:Good true Zjj:=by
  rw [ZpB]
  refine Good.hd (fun c=>?_) (fun c=>?_) fun c hc=>⟨22,?_⟩
  ·cases Zbr c with
   | some m=>exact (Good.okP _ _).tl
   | none=>exact Hf.ite ((Zhp 4 0).1.bind fun _=>Good.okP true _).tl (Hf.fail (by decide))
  ·cases Zbr c with
   | some m=>exact ZaN (Zen _)
   | none=>exact St.ite ((ZaN (k:=0) ((Zhp 4 0).1.bind (s':=true) fun _=>Good.okP true _).sf.st)) Zao
  ·rcases Zdr hc with rfl | rfl | rfl | rfl<;>rfl
theorem ZnU (n lo hi:Nat):Zcw (n+1) lo hi=hdP (.err 24 []) fun d=>if lo≤d.toNat∧d.toNat≤hi then tlP (Zcw n 128 191) else XW 22:=by
  funext l
  rcases l with _ | ⟨c,l⟩
  ·rfl
  ·dsimp only [Zcw,hdP]
   split<;>rfl
theorem ZiD:∀ (n lo hi:Nat),128≤lo→Good true (Zcw n lo hi)
  | 0,_,_,_=>Good.okP true ()
  | n+1,lo,hi,h=>by
    rw [ZnU]
    refine Good.hd (fun c=>Hf.ite (ZiD n 128 191 (Nat.le_refl _)).tl (Hf.fail (by decide))) (fun c=>St.ite (ZaN (k:=0) (ZiD n 128 191 (Nat.le_refl _)).sf.st) Zao) fun c hc=>⟨22,?_⟩
    rw [if_neg]
    rcases Zdr hc with rfl | rfl | rfl | rfl<;>(intro hh;have:=hh.1;simp at this;omega)
theorem Znn:Zag=hdP (.err 24 []) fun c=>if nRb c=0 then XW 22 else tlP (Zcw (nRb c - 1) (loR c) (hiR c)):=by
  funext l
  rcases l with _ | ⟨c,l⟩
  ·rfl
  ·dsimp only [Zag,hdP]
   split<;>rfl
theorem ZtZ:∀ b:Fin 256,2≤nRb ⟨⟨b⟩⟩→128≤loR ⟨⟨b⟩⟩:=by decide +kernel
theorem Zqs:∀ c:UInt8,2≤nRb c→128≤loR c:=fun ⟨⟨b⟩⟩=>ZtZ b
theorem ZdD:Hf true Zag∧St 1 Zag:=by
  rw [Znn]
  have key:∀ c,Good true (Zcw (nRb c - 1) (loR c) (hiR c)):=fun c=>by
    by_cases h:2≤nRb c
    ·exact ZiD _ _ _ (Zqs c h)
    ·rw [show nRb c - 1=0 by omega];exact Good.okP true ()
  have st:∀ c,St 1 (if nRb c=0 then XW 22 else tlP (Zcw (nRb c - 1) (loR c) (hiR c))):=fun c=>St.ite Zao (ZaN (k:=0) (key c).sf.st)
  exact ⟨Hf.hd (fun c=>Hf.ite (Hf.fail (by decide)) (key c).tl) st,Zil (fun a r h=>by cases h) st⟩
def T (p:Option Nat) (out:BL):BL→Out BL:=fun l=>ZbQ (l.length+1) p out l
def tF (p:Option Nat) (out:BL) (c:UInt8):BL→Out BL :=
  if c.toNat<32 then XW 22
  else if c=34 then tlP (okP (out++flB p))
  else if c=92 then tlP fun l=>(Zjj l).bind fun t=>T (Zg6 p out t).1 (Zg6 p out t).2
  else if c.toNat<128 then tlP (T none (out++flB p++[c]))
  else fun l=>(Zdn Zag l).bind fun o=>T none (out++flB p++o)
theorem Zn4 {n:Nat} {p:Option Nat} {out l:BL} (h:l.length<n):ZbQ n p out l=T p out l:=Zc8 _ _ _ _ _ h (Nat.lt_succ_self _)
theorem ZuG (p:Option Nat) (out:BL):T p out=hdP (.err 24 []) (tF p out):=by
  funext l
  rcases l with _ | ⟨c,l⟩
  ·rfl
  ·show ZbQ ((c::l).length+1) p out (c::l)=tF p out c (c::l)
   unfold ZbQ tF
   split
   ·rfl
   split
   ·rfl
   split
   ·show _=(Zjj l).bind _
    cases h:Zjj l with
    | err e r=>rfl
    | ok t r=>exact Zn4 (by have:=(ZfS h).1;simp;omega)
   split
   ·exact Zn4 (by simp)
   ·show _=(Zdn Zag (c::l)).bind _
    unfold Zdn
    cases h:Zag (c::l) with
    | err e r=>rfl
    | ok t r=>exact Zn4 (by have:=(ZbH h).1;simp at this ⊢;omega)
theorem Zhk:∀ (n:Nat) (p:Option Nat) (out l:BL),l.length<n→(∀ a r,ZbQ n p out l = .ok a r→r <:+l∧r.length<l.length)∧∀ e r,ZbQ n p out l = .err e r→r <:+l∧(e=24↔r=[])
  | 0,_,_,_,h=>by omega
  | n+1,p,out,[],_=>⟨fun a r h=>(by cases h),fun e r h=>by cases h;simp⟩
  | n+1,p,out,c::l,h=>by
    simp only [List.length_cons] at h
    have up:∀ {r q:BL},r.length<(c::l).length→r <:+c::l→∀ {p':Option Nat} {out':BL},(∀ a q,ZbQ n p' out' r = .ok a q→q <:+c::l∧q.length<(c::l).length)∧∀ e q,ZbQ n p' out' r = .err e q→q <:+c::l∧(e=24↔q=[]):=fun {r q} hr hs {p' out'}=>by
      obtain ⟨a,b⟩:=Zhk n p' out' r (by simp at hr;omega)
      exact ⟨fun x q hq=>⟨(a x q hq).1.trans hs,Nat.lt_trans (a x q hq).2 hr⟩,fun e q hq=>⟨(b e q hq).1.trans hs,(b e q hq).2⟩⟩
    unfold ZbQ
    split
    ·exact ⟨fun a r h=>(by cases h),fun e r h=>by cases h;simp⟩
    split
    ·exact ⟨fun a r h=>by cases h;exact ⟨List.suffix_cons _ _,by simp⟩,fun e r h=>by cases h⟩
    split
    ·cases ht:Zjj l with
     | err e r=>exact ⟨fun a q h=>(by cases h),fun e q h=>by cases h;exact ⟨XB (Zbl.sf.esuf ht).1,(Zbl.sf.esuf ht).2⟩⟩
     | ok t r=>exact up (q:=[]) (by have:=(ZfS ht).1;simp;omega) (XB (ZfS ht).2)
    split
    ·exact up (q:=[]) (by simp) (List.suffix_cons _ _)
    ·cases ht:Zag (c::l) with
     | err e r=>exact ⟨fun a q h=>(by cases h),fun e q h=>by cases h;exact ZdD.1.sf.esuf ht⟩
     | ok t r=>exact up (q:=[]) (ZbH ht).1 (ZbH ht).2
theorem Zwl (p:Option Nat) (out:BL):Sf (T p out):=⟨fun h=>((Zhk _ p out _ (Nat.lt_succ_self _)).1 _ _ h).1,fun h=>(Zhk _ p out _ (Nat.lt_succ_self _)).2 _ _ h⟩
theorem ZwK (p:Option Nat) (out:BL):St 1 (T p out):=⟨fun h=>((Zhk _ p out _ (Nat.lt_succ_self _)).1 _ _ h).2⟩
theorem Zyf (p:Option Nat) (out:BL) (c:UInt8):St 1 (tF p out c):=by
  unfold tF
  refine St.ite Zao (St.ite (ZaN (Zen _)) (St.ite (ZaN (k:=0) ?_) (St.ite (St.mono (ZaN (ZwK _ _)) (by omega)) ?_)))
  ·exact St.mono (m:=0) (St.bind (k:=0) (m:=1) Zbl.sf.st fun t=>ZwK _ _) (by omega)
  ·exact St.mono (m:=1) (St.bind (k:=1) (m:=1) (ZkI ZdD.2) fun t=>ZwK _ _) (by omega)
theorem Zrh:∀ (b:BL) (p:Option Nat) (out:BL),Blk b→∃ e r,T p out b = .err e r∧r <:+b
  | [],p,out,_=>⟨24,[],rfl,List.suffix_refl _⟩
  | c::b,p,out,h=>by
    rw [ZuG]
    show ∃ e r,tF p out c (c::b)=_∧_
    rcases Zdr (h c (by simp)) with rfl | rfl | rfl | rfl
    ·obtain ⟨e,r,h1,h2⟩:=Zrh b none (out++flB p++[32]) h.tail
     exact ⟨e,r,h1,XB h2⟩
    ·exact ⟨22,_,rfl,List.suffix_refl _⟩
    ·exact ⟨22,_,rfl,List.suffix_refl _⟩
    ·exact ⟨22,_,rfl,List.suffix_refl _⟩
theorem Zwm (p:Option Nat) (out:BL):Bn true (T p out):=⟨fun _ hb=>Zrh _ p out hb,fun h=>by cases h⟩
theorem ZwL:∀ (n:Nat) (p:Option Nat) (out:BL),Pe n (T p out)
  | 0,_,_=>⟨fun h=>by omega,fun h=>by omega,fun h=>by omega,fun h=>by omega⟩
  | n+1,p,out=>by
    rw [ZuG]
    refine ZnD (.inl rfl) (fun c r b h=>ZrF (Zyf p out c) h (Nat.le_refl _)) fun c=>?_
    unfold tF
    split
    ·exact ZkM
    split
    ·exact Zjk (Zqb _) (Zqc _)
    split
    ·exact Zjk (Zbl.sf.bind fun t=>Zwl _ _) (Pe.bind (m:=n) (k:=0) (Zbl.pe n) Zbl.sf Zbl.sf.st (fun t=>ZwL n _ _) fun t=>Zwl _ _)
    split
    ·exact Zjk (Zwl _ _) (ZwL n _ _)
    ·exact Pe.bind (m:=n) (k:=1) (ZmL (ZdD.1.pe _)) (ZmK ZdD.1.sf) (ZkI ZdD.2) (fun t=>ZwL n _ _) fun t=>Zwl _ _
theorem ZwM:∀ (n:Nat) (p:Option Nat) (out:BL),Pb n true (T p out)
  | 0,_,_=>⟨fun h=>by omega,fun h=>by omega⟩
  | n+1,p,out=>by
    rw [ZuG]
    refine ZnE fun c=>?_
    unfold tF
    split
    ·exact ZkN (by decide)
    split
    ·exact Zjl (Zqd _ _) (Zqe _ _)
    split
    ·exact Zjl (Pb.bind (m:=n) (k:=0) (s:=true) (s':=true) (Zbl.pe n) (Zbl.pb n) Zbl.sf Zbl.sf.st (fun t=>ZwM n _ _) fun t=>Zwm _ _) (Zbl.bn.bind (s':=true) Zbl.sf fun t=>Zwm _ _)
    split
    ·exact Zjl (ZwM n _ _) (Zwm _ _)
    ·exact Pb.bind (m:=n) (k:=1) (s:=true) (s':=true) (ZmL (ZdD.1.pe _)) (ZqJ (ZdD.1.pb _)) (ZmK ZdD.1.sf) (ZkI ZdD.2) (fun t=>ZwM n _ _) fun t=>Zwm _ _
theorem Ztj (p:Option Nat) (out:BL):Good true (T p out):=⟨⟨Zwl p out,fun n=>ZwL n p out,fun n=>ZwM n p out⟩,Zwm p out⟩
theorem ZeB:ZgY=T none []:=by
  funext l
  exact (ZhL _ l (Nat.lt_succ_self _)).1 []
def nmP:BL→Out BL:=fun l=>(Zca Yp l).bind fun _=>hdP (.err 24 []) fun c=>if c=34 then tlP fun l=>(ZgY l).bind fun nm l=>(Zca Yp l).bind fun _=>hdP (.err 24 []) fun d=>if d=58 then tlP (okP nm) else XW 20 else XW 20
theorem Znw:Zbp=nmP:=by
  funext l
  show Zbp l=hdP _ _ (ZM l)
  unfold Zbp
  cases ZM l with
  | nil=>rfl
  | cons c l1 =>
    show _=(if c=34 then _ else _:BL→Out BL) (c::l1)
    dsimp only
    split
    ·show _=(ZgY l1).bind _
     congr 1
     funext nm l2
     show _=hdP _ _ (ZM l2)
     cases ZM l2 with
     | nil=>rfl
     | cons d l3 =>
       show _=(if d=58 then _ else _:BL→Out BL) (d::l3)
       dsimp only
       split<;>rfl
    ·rfl
theorem Zhs {c d:UInt8} (hc:Yp c=true) (hd:Yp d=false):c≠d:=fun e=>by rw [e,hd] at hc;cases hc
theorem Zf6:Good false Zbp∧St 1 Zbp:=by
  rw [Znw]
  have g3:∀ nm:BL,Good false (hdP (.err 24 []) fun d=>if d=58 then tlP (okP nm) else XW 20):=fun nm=>by
    refine Good.hd (fun c=>Hf.ite (Good.okP _ _).tl (Hf.fail (by decide))) (fun c=>St.ite (ZaN (Zen _)) Zao) fun c hc=>⟨20,?_⟩
    rw [if_neg (Zhs hc (by decide))]
  have g2:∀ nm:BL,Good false fun l=>(Zca Yp l).bind fun _=>hdP (.err 24 []) fun d=>if d=58 then tlP (okP nm) else XW 20:=fun nm=>Zdg.bind fun _=>g3 nm
  have g1:Good false fun l=>(ZgY l).bind fun nm l=>(Zca Yp l).bind fun _=>hdP (.err 24 []) fun d=>if d=58 then tlP (okP nm) else XW 20:=by
    rw [ZeB]
    exact (Ztj none []).bind fun nm=>g2 nm
  have g0:Good false (hdP (.err 24 []) fun c=>if c=34 then tlP fun l=>(ZgY l).bind fun nm l=>(Zca Yp l).bind fun _=>hdP (.err 24 []) fun d=>if d=58 then tlP (okP nm) else XW 20 else XW 20)∧St 1 (hdP (.err 24 []) fun c=>if c=34 then tlP fun l=>(ZgY l).bind fun nm l=>(Zca Yp l).bind fun _=>hdP (.err 24 []) fun d=>if d=58 then tlP (okP nm) else XW 20 else XW 20):=by
    have st:∀ c:UInt8,St 1 (if c=34 then tlP fun l=>(ZgY l).bind fun nm l=>(Zca Yp l).bind fun _=>hdP (.err 24 []) fun d=>if d=58 then tlP (okP nm) else XW 20 else XW 20):=fun c=>St.ite (ZaN (k:=0) g1.sf.st) Zao
    refine ⟨Good.hd (fun c=>Hf.ite g1.tl (Hf.fail (by decide))) st fun c hc=>⟨20,?_⟩,Zil (fun a r h=>by cases h) st⟩
    rw [if_neg (Zhs hc (by decide))]
  exact ⟨Zdg.bind fun _=>g0.1,St.mono (St.bind (k:=0) (m:=1) (Zgc _) fun _=>g0.2) (by omega)⟩
section
variable {pv:BL→Out JV}
theorem Zns (ob:Bool) (ns:List BL) (sub:JL):Zaw pv ob ns sub=if ob=true then fun l=>(Zbp l).bind fun nm l=>(pv l).bind fun v l=>(Zca Yp l).bind fun _=>okP (ns++[nm],sub.snoc v)
    else fun l=>(Zca Yp l).bind fun _ l=>(pv l).bind fun v l=>(Zca Yp l).bind fun _=>okP (ns,sub.snoc v):=by
  funext l
  unfold Zaw
  split<;>rfl
theorem Zcg (hv:Good false pv) (hs:St 1 pv) (ob:Bool) (ns:List BL) (sub:JL):Good false (Zaw pv ob ns sub)∧St 1 (Zaw pv ob ns sub):=by
  rw [Zns]
  have fin:∀ a:List BL × JL,Good false fun l=>(Zca Yp l).bind fun _=>okP a:=fun a=>Zdg.bind fun _=>Good.okP false a
  split
  ·exact ⟨Zf6.1.bind fun nm=>hv.bind fun v=>fin _,St.mono (m:=1) (St.bind (k:=1) (m:=1) Zf6.2 fun nm=>St.bind (k:=1) (m:=0) hs fun v=>(fin _).sf.st) (by omega)⟩
  ·exact ⟨Zdg.bind fun _=>hv.bind fun v=>fin _,St.mono (m:=1) (St.bind (k:=0) (m:=1) (Zgc _) fun _=>St.bind (k:=1) (m:=0) hs fun v=>(fin _).sf.st) (by omega)⟩
def L (pv:BL→Out JV) (ob:Bool) (ns:List BL) (sub:JL):BL→Out (List BL × JL):=fun l=>ZdO pv ob (l.length+1) ns sub l
theorem ZgK (hv:Good false pv) (hs:St 1 pv) (ob:Bool):∀ (n m:Nat) (ns:List BL) (sub:JL) (l:BL),l.length<n→l.length<m→ZdO pv ob n ns sub l=ZdO pv ob m ns sub l
  | 0,_,_,_,_,h,_=>by omega
  | _,0,_,_,_,_,h=>by omega
  | n+1,m+1,ns,sub,l,hn,hm=>by
    have go:∀ l',l'.length≤l.length→((Zaw pv ob ns sub l').bind fun p l2=>ZdO pv ob n p.1 p.2 l2)=(Zaw pv ob ns sub l').bind fun p l2=>ZdO pv ob m p.1 p.2 l2:=fun l' hl=>by
      cases e:Zaw pv ob ns sub l' with
      | err k r=>rfl
      | ok p r=>have:=(Zcg hv hs ob ns sub).2.len e;exact ZgK hv hs ob n m _ _ r (by omega) (by omega)
    unfold ZdO
    rw [go l (Nat.le_refl _),go l.tail (by simp)]
def lF (pv:BL→Out JV) (ob:Bool) (ns:List BL) (sub:JL) (c:UInt8):BL→Out (List BL × JL) :=
  if c=Zcz ob then tlP (okP (ns,sub))
  else if sub.isNil=true then fun l=>(Zaw pv ob ns sub l).bind fun p=>L pv ob p.1 p.2
  else if c=44 then tlP fun l=>(Zaw pv ob ns sub l).bind fun p=>L pv ob p.1 p.2
  else XW 20
theorem Zhn (h0:pv [] = .err 24 []) (ob:Bool) (ns:List BL) (sub:JL):Zaw pv ob ns sub [] = .err 24 []:=by
  unfold Zaw
  cases ob
  ·show (pv []).bind _=_
   rw [h0];rfl
  ·rfl
theorem Zo7 (hv:Good false pv) (hs:St 1 pv) (h0:pv [] = .err 24 []) (ob:Bool) (ns:List BL) (sub:JL):L pv ob ns sub=hdP (.err 24 []) (lF pv ob ns sub):=by
  funext l
  rcases l with _ | ⟨c,l⟩
  ·show ZdO pv ob 1 ns sub [] = .err 24 []
   unfold ZdO
   rw [if_neg (by simp [Zcy]),Zhn h0]
   split
   ·rfl
   ·rw [if_neg (by simp [Zcy])];rfl
  ·show ZdO pv ob ((c::l).length+1) ns sub (c::l)=lF pv ob ns sub c (c::l)
   unfold ZdO lF
   have go:∀ l',l'.length≤(c::l).length→((Zaw pv ob ns sub l').bind fun p l2=>ZdO pv ob (c::l).length p.1 p.2 l2)=(Zaw pv ob ns sub l').bind fun p=>L pv ob p.1 p.2:=fun l' hl=>by
     cases e:Zaw pv ob ns sub l' with
     | err k r=>rfl
     | ok p r=>have:=(Zcg hv hs ob ns sub).2.len e;exact ZgK hv hs ob _ _ _ _ r (by omega) (by omega)
   rw [go _ (Nat.le_refl _),go (c::l).tail (by simp)]
   by_cases h1:c=Zcz ob
   ·rw [if_pos h1,if_pos (by simp [Zcy,h1])];rfl
   rw [if_neg h1,if_neg (by simp [Zcy,h1])]
   by_cases h2:sub.isNil=true
   ·rw [if_pos h2,if_pos h2]
   rw [if_neg h2,if_neg h2]
   by_cases h3:c=44
   ·rw [if_pos h3,if_pos (by simp [Zcy,h3])];rfl
   ·rw [if_neg h3,if_neg (by simp [Zcy,h3])]
theorem ZkD (hv:Good false pv) (hs:St 1 pv) (h0:pv [] = .err 24 []) (ob:Bool):∀ (n:Nat) (ns:List BL) (sub:JL) (l:BL),l.length<n→(∀ a r,L pv ob ns sub l = .ok a r→r <:+l∧r.length<l.length)∧∀ e r,L pv ob ns sub l = .err e r→r <:+l∧(e=24↔r=[])
  | 0,_,_,_,h=>by omega
  | n+1,ns,sub,l,h=>by
    have ih:∀ l',l'.length≤l.length→l' <:+l→(∀ a r,((Zaw pv ob ns sub l').bind fun p=>L pv ob p.1 p.2) = .ok a r→r <:+l∧r.length<l.length)∧∀ e r,((Zaw pv ob ns sub l').bind fun p=>L pv ob p.1 p.2) = .err e r→r <:+l∧(e=24↔r=[]):=fun l' hl hsuf=>by
      have pg:=Zcg hv hs ob ns sub
      cases e:Zaw pv ob ns sub l' with
      | err k q=>exact ⟨fun a r h=>(by cases h),fun e' r h=>by cases h;exact ⟨(pg.1.sf.esuf e).1.trans hsuf,(pg.1.sf.esuf e).2⟩⟩
      | ok p q =>
        have h1:=pg.2.len e
        have h2:=(pg.1.sf.suf e).trans hsuf
        obtain ⟨a,b⟩:=ZkD hv hs h0 ob n p.1 p.2 q (by omega)
        exact ⟨fun x r hr=>⟨(a x r hr).1.trans h2,by have:=(a x r hr).2;omega⟩,fun e' r hr=>⟨(b e' r hr).1.trans h2,(b e' r hr).2⟩⟩
    rw [Zo7 hv hs h0]
    rcases l with _ | ⟨c,l⟩
    ·exact ⟨fun a r h=>(by cases h),fun e r h=>by cases h;simp⟩
    show (∀ a r,lF pv ob ns sub c (c::l) = .ok a r→_)∧∀ e r,lF pv ob ns sub c (c::l) = .err e r→_
    unfold lF
    split
    ·exact ⟨fun a r h=>by cases h;exact ⟨List.suffix_cons _ _,by simp⟩,fun e r h=>by cases h⟩
    split
    ·exact ih _ (Nat.le_refl _) (List.suffix_refl _)
    split
    ·exact ih l (by simp) (List.suffix_cons _ _)
    ·exact ⟨fun a r h=>(by cases h),fun e r h=>by cases h;simp⟩
theorem Zqq (hv:Good false pv) (hs:St 1 pv) (h0:pv [] = .err 24 []) (ob:Bool) (ns:List BL) (sub:JL):Good false (L pv ob ns sub)∧St 1 (L pv ob ns sub):=by
  have sf:∀ ns sub,Sf (L pv ob ns sub):=fun ns sub=>⟨fun h=>((ZkD hv hs h0 ob _ ns sub _ (Nat.lt_succ_self _)).1 _ _ h).1,fun h=>(ZkD hv hs h0 ob _ ns sub _ (Nat.lt_succ_self _)).2 _ _ h⟩
  have st:∀ ns sub,St 1 (L pv ob ns sub):=fun ns sub=>⟨fun h=>((ZkD hv hs h0 ob _ ns sub _ (Nat.lt_succ_self _)).1 _ _ h).2⟩
  have fst:∀ ns sub c,St 1 (lF pv ob ns sub c):=fun ns sub c=>by
    unfold lF
    have pg:=Zcg hv hs ob ns sub
    have b:St 1 fun l=>(Zaw pv ob ns sub l).bind fun p=>L pv ob p.1 p.2:=St.mono (m:=1) (St.bind (k:=1) (m:=1) pg.2 fun p=>st _ _) (by omega)
    exact St.ite (ZaN (Zen _)) (St.ite b (St.ite (St.mono (ZaN b) (by omega)) Zao))
  have bn:∀ ns sub,Bn false (L pv ob ns sub):=fun ns sub=>by
    have pg:=Zcg hv hs ob ns sub
    rw [Zo7 hv hs h0]
    refine ⟨fun {b} _ hb=>?_,fun h=>by cases h⟩
    rcases b with _ | ⟨c,b⟩
    ·exact ⟨24,[],rfl,List.suffix_refl _⟩
    ·have hc:=hb c (by simp)
     show ∃ e r,lF pv ob ns sub c (c::b)=_∧_
     unfold lF
     rw [if_neg (Zhs hc (by cases ob<;>decide)),if_neg (c:=c=44) (Zhs hc (by decide))]
     split
     ·obtain ⟨e,r,h1,h2⟩:=pg.1.bn.bl (Zhn h0 ob ns sub) hb
      exact ⟨e,r,by dsimp only;rw [h1];rfl,h2⟩
     ·exact ⟨20,_,rfl,List.suffix_refl _⟩
  have pe:∀ n ns sub,Pe n (L pv ob ns sub):=by
    intro n
    induction n with
    | zero=>intro ns sub;exact ⟨fun h=>by omega,fun h=>by omega,fun h=>by omega,fun h=>by omega⟩
    | succ n ih =>
      intro ns sub
      have pg:=Zcg hv hs ob ns sub
      rw [Zo7 hv hs h0]
      refine ZnD (.inl rfl) (fun c r b h=>ZrF (fst ns sub c) h (Nat.le_refl _)) fun c=>?_
      unfold lF
      have b:Pe (n+1) fun l=>(Zaw pv ob ns sub l).bind fun p=>L pv ob p.1 p.2:=Pe.bind (m:=n) (k:=1) (pg.1.pe _) pg.1.sf pg.2 (fun p=>ih _ _) fun p=>sf _ _
      split
      ·exact Zjk (Zqb _) (Zqc _)
      split
      ·exact b
      split
      ·exact Zjk (pg.1.sf.bind fun p=>sf _ _) (b.mono (Nat.le_succ n))
      ·exact ZkM
  have pb:∀ n ns sub,Pb n false (L pv ob ns sub):=by
    intro n
    induction n with
    | zero=>intro ns sub;exact ⟨fun h=>by omega,fun h=>by omega⟩
    | succ n ih =>
      intro ns sub
      have pg:=Zcg hv hs ob ns sub
      rw [Zo7 hv hs h0]
      refine ZnE fun c=>?_
      unfold lF
      have b:Pb (n+1) false fun l=>(Zaw pv ob ns sub l).bind fun p=>L pv ob p.1 p.2:=Pb.bind (m:=n) (k:=1) (s:=false) (s':=false) (pg.1.pe _) (pg.1.pb _) pg.1.sf pg.2 (fun p=>ih _ _) fun p=>bn _ _
      split
      ·exact Zjl (Zqd _ _) (Zqe _ _)
      split
      ·exact b
      split
      ·exact Zjl (b.mono (Nat.le_succ n)) (pg.1.bn.bind (s':=false) pg.1.sf fun p=>bn _ _)
      ·exact ZkN (by decide)
  exact ⟨⟨⟨sf ns sub,fun n=>pe n ns sub,fun n=>pb n ns sub⟩,bn ns sub⟩,st ns sub⟩
end
def vF (op:Bool→BL→Out JV) (c:UInt8):BL→Out JV :=
  if c=123 then op true
  else if c=91 then op false
  else if c=34 then tlP fun l=>(ZgY l).bind fun t=>okP ⟨5,t,[],.nil⟩
  else if c=110 then fun l=>(XL [110,117,108,108] l).bind fun _=>okP ⟨1,[],[],.nil⟩
  else if c=102 then fun l=>(XL [102,97,108,115,101] l).bind fun _=>okP ⟨2,[],[],.nil⟩
  else if c=116 then fun l=>(XL [116,114,117,101] l).bind fun _=>okP ⟨3,[],[],.nil⟩
  else if c=45∨Xn c then fun l=>(Zdn ZdN l).bind fun t=>okP ⟨4,t,[],.nil⟩
  else XW 20
def vP (op:Bool→BL→Out JV):BL→Out JV:=fun l=>(Zca Yp l).bind fun _=>hdP (.err 24 []) (vF op)
theorem ZfR {op op':Bool→BL→Out JV} (h:∀ b c l,op b (c::l)=op' b (c::l)):Zdv op=vP op':=by
  funext l
  show Zdv op l=hdP _ _ (ZM l)
  unfold Zdv
  cases ZM l with
  | nil=>rfl
  | cons c l1 =>
    show _=vF op' c (c::l1)
    unfold vF
    dsimp only
    split
    ·exact h true c l1
    split
    ·exact h false c l1
    split
    ·rfl
    split
    ·rfl
    split
    ·rfl
    split
    ·rfl
    split
    ·show _=(Zdn ZdN (c::l1)).bind _
     unfold Zdn
     cases ZdN (c::l1)<;>rfl
    ·rfl
def opP (pv:BL→Out JV) (ob:Bool):BL→Out JV:=tlP fun l=>(Zca Yp l).bind fun _ l=>(L pv ob [] .nil l).bind fun p=>okP ⟨if ob then 7 else 6,[],p.1,p.2⟩
theorem Zkx {pv:BL→Out JV} (hv:Good false pv) (hs:St 1 pv) (ob:Bool) (c:UInt8) (l:BL):Zky pv ob (c::l)=opP pv ob (c::l):=by
  show (ZdO pv ob _ [] .nil (ZM l)).bind _=(L pv ob [] .nil (ZM l)).bind _
  unfold L
  rw [ZgK hv hs ob ((c::l).length+1) ((ZM l).length+1)]
  ·rfl
  ·have:=(Zli l).length_le;simp;omega
  ·omega
theorem Zpu {op:Bool→BL→Out JV} (ho:∀ b,Hf false (op b)) (hs:∀ b,St 1 (op b)):Good false (vP op)∧St 1 (vP op):=by
  have w1:=Zdc [110,117,108,108] (by decide)
  have w2:=Zdc [102,97,108,115,101] (by decide)
  have w3:=Zdc [116,114,117,101] (by decide)
  have s0:Good false (fun l=>(ZgY l).bind fun t=>okP (⟨5,t,[],.nil⟩:JV)):=by rw [ZeB];exact (Ztj none []).bind fun t=>Good.okP false _
  have hf:∀ c,Hf false (vF op c):=fun c=>by
    unfold vF
    refine Hf.ite (ho true) (Hf.ite (ho false) (Hf.ite s0.tl (Hf.ite ?_ (Hf.ite ?_ (Hf.ite ?_ (Hf.ite ?_ (Hf.fail (by decide))))))))
    ·exact (w1.1.bind fun _=>Good.okP false _).toHf
    ·exact (w2.1.bind fun _=>Good.okP false _).toHf
    ·exact (w3.1.bind fun _=>Good.okP false _).toHf
    ·exact (Zfe.got.bind fun _=>Good.okP false _).toHf
  have st:∀ c,St 1 (vF op c):=fun c=>by
    unfold vF
    refine St.ite (hs true) (St.ite (hs false) (St.ite (ZaN (k:=0) s0.sf.st) (St.ite ?_ (St.ite ?_ (St.ite ?_ (St.ite ?_ Zao))))))
    ·exact St.mono (St.bind (m:=0) w1.2 fun _=>Zen _) (by simp)
    ·exact St.mono (St.bind (m:=0) w2.2 fun _=>Zen _) (by simp)
    ·exact St.mono (St.bind (m:=0) w3.2 fun _=>Zen _) (by simp)
    ·exact St.bind (k:=1) (m:=0) (ZkI Zs3) fun _=>Zen _
  have g:Good false (hdP (.err 24 []) (vF op)):=Good.hd hf st fun c hc=>⟨20,by
    rcases Zdr hc with rfl | rfl | rfl | rfl<;>rfl⟩
  exact ⟨Zdg.bind fun _=>g,St.mono (St.bind (k:=0) (m:=1) (Zgc _) fun _=>Zil (fun a r h=>by cases h) st) (by omega)⟩
theorem Xb:∀ n:Nat,Good false (ZB n)∧St 1 (ZB n)
  | 0=>by
    unfold ZB
    rw [ZfR (op':=fun _=>XW 23) fun b c l=>rfl]
    exact Zpu (fun _=>Hf.fail (by decide)) fun _=>Zao
  | n+1=>by
    obtain ⟨hv,hs⟩:=Xb n
    have h0:ZB n [] = .err 24 []:=by cases n<;>rfl
    unfold ZB
    rw [ZfR (op':=opP (ZB n)) fun b c l=>Zkx hv hs b c l]
    have lg:=fun ob=>Zqq hv hs h0 ob [] .nil
    exact Zpu (fun b=>(Zdg.bind fun _=>(lg b).1.bind fun p=>Good.okP false _).tl) fun b=>ZaN (k:=0) (Zdg.bind fun _=>(lg b).1.bind fun p=>Good.okP false _).sf.st
theorem Zes (n:Nat):ZB n [] = .err 24 []:=by cases n<;>rfl
theorem Zj9 (n:Nat):ZB (n+1)=vP (opP (ZB n)):=ZfR fun b c l=>Zkx (Xb n).1 (Xb n).2 b c l
theorem Zk7:ZB 0=vP fun _=>XW 23:=ZfR fun b c l=>rfl
def Nz {α:Type} (p:BL→Out α):Prop:=∀ l e r,p l = .err e r→20≤e∧e≤24
section
variable {α β:Type}
theorem Nz.bind {p:BL→Out α} {f:α→BL→Out β} (hp:Nz p) (hf:∀ a,Nz (f a)):Nz fun l=>(p l).bind f:=fun l e r h=>by
  dsimp only at h
  cases h1:p l with
  | ok a l1=>rw [h1] at h;exact hf a _ _ _ h
  | err k q=>rw [h1] at h;cases h;exact hp _ _ _ h1
theorem Nz.hd {e0:Out α} {f:UInt8→BL→Out α} (h0:fin e0) (hf:∀ c,Nz (f c)):Nz (hdP e0 f):=fun l e r h=>by
  rcases l with _ | ⟨c,l⟩
  ·rcases h0 with ⟨b,h0⟩ | h0<;>(rw [show hdP e0 f []=e0 from rfl,h0] at h;cases h)
   exact ⟨by decide,by decide⟩
  ·exact hf c _ _ _ h
theorem Nz.tl {g:BL→Out α} (hg:Nz g):Nz (tlP g):=fun l e r h=>by
  rcases l with _ | ⟨c,l⟩
  ·cases h;exact ⟨by decide,by decide⟩
  ·exact hg _ _ _ h
theorem Nz.ok (a:α):Nz (okP a):=fun l e r h=>by cases h
theorem Nz.fail {e:Nat} (he:20≤e∧e≤24):Nz (XW e:BL→Out α):=fun l k r h=>by
  cases l<;>cases h
  ·exact ⟨by decide,by decide⟩
  ·exact he
theorem Nz.ite {c:Prop} [Decidable c] {p q:BL→Out α} (hp:Nz p) (hq:Nz q):Nz (if c then p else q):=by split<;>assumption
theorem Nz.got {p:BL→Out α} (hp:Nz p):Nz (Zdn p):=fun l e r h=>hp _ _ _ (Zfi h)
end
theorem Nz.drop (P:UInt8→Bool):Nz (Zca P):=fun l e r h=>by cases h
theorem Ziz:Nz Ym:=by rw [ZgP];exact Nz.hd (.inr rfl) fun c=>Nz.ite (Nz.drop _).tl (Nz.fail (by decide))
theorem ZvQ:Nz ZdN:=by
  have h1:Nz ZvU:=fun l e r h=>by cases h
  have h2:Nz Za3:=by rw [ZjC];exact Nz.hd (.inl ⟨_,rfl⟩) fun c=>Nz.ite (Nz.fail (by decide)) (Nz.ok _)
  have h3:Nz ZfJ:=by rw [ZmI];exact Nz.hd (.inr rfl) fun c=>Nz.ite h2.tl Ziz
  have h4:Nz ZdS:=by rw [ZnI];exact Nz.hd (.inl ⟨_,rfl⟩) fun c=>Nz.ite Ziz.tl (Nz.ok _)
  have h6:Nz ZvH:=fun l e r h=>by cases h
  have h5:Nz Zgi:=by rw [ZqT];exact Nz.hd (.inl ⟨_,rfl⟩) fun c=>Nz.ite (h6.bind fun _=>Ziz).tl (Nz.ok _)
  rw [ZmB]
  exact h1.bind fun _=>h3.bind fun _=>h4.bind fun _=>h5
theorem Zj6:∀ w:BL,Nz (XL w)
  | []=>Nz.ok ()
  | c::w=>by rw [Znc];exact Nz.hd (.inr rfl) fun d=>Nz.ite (Zj6 w).tl (Nz.fail (by decide))
theorem Ztd:∀ k n:Nat,Nz (Zcl k n)
  | 0,n=>Nz.ok n
  | k+1,n=>by
    rw [ZqG]
    refine Nz.hd (.inr rfl) fun c=>?_
    cases ZfK c with
    | some d=>exact (Ztd k _).tl
    | none=>exact Nz.fail (by decide)
theorem ZvB:Nz Zjj:=by
  rw [ZpB]
  refine Nz.hd (.inr rfl) fun c=>?_
  cases Zbr c with
  | some m=>exact (Nz.ok _).tl
  | none=>exact Nz.ite ((Ztd 4 0).bind fun n=>Nz.ok _).tl (Nz.fail (by decide))
theorem Zq2:∀ n lo hi:Nat,Nz (Zcw n lo hi)
  | 0,_,_=>Nz.ok ()
  | n+1,lo,hi=>by rw [ZnU];exact Nz.hd (.inr rfl) fun d=>Nz.ite (Zq2 n _ _).tl (Nz.fail (by decide))
theorem ZtI:Nz Zag:=by rw [Znn];exact Nz.hd (.inr rfl) fun c=>Nz.ite (Nz.fail (by decide)) (Zq2 _ _ _).tl
theorem Zhj:∀ (n:Nat) (p:Option Nat) (out l:BL) (e:Nat) (r:BL),ZbQ n p out l = .err e r→20≤e∧e≤24
  | 0,_,_,_,_,_,h=>by cases h;exact ⟨by decide,by decide⟩
  | n+1,p,out,[],_,_,h=>by cases h;exact ⟨by decide,by decide⟩
  | n+1,p,out,c::l,e,r,h=>by
    rw [Zbm] at h
    split at h
    ·cases h;exact ⟨by decide,by decide⟩
    split at h
    ·cases h
    split at h
    ·cases ht:Zjj l with
     | err k q=>rw [ht] at h;cases h;exact ZvB _ _ _ ht
     | ok t q=>rw [ht] at h;exact Zhj n _ _ _ _ _ h
    split at h
    ·exact Zhj n _ _ _ _ _ h
    ·cases ht:Zag (c::l) with
     | err k q=>rw [ht] at h;cases h;exact ZtI _ _ _ ht
     | ok t q=>rw [ht] at h;exact Zhj n _ _ _ _ _ h
theorem Zze (p:Option Nat) (out:BL):Nz (T p out):=fun l e r h=>Zhj _ _ _ _ _ _ h
theorem ZtU:Nz Zbp:=by
  rw [Znw]
  have g3:∀ nm:BL,Nz (hdP (.err 24 []) fun d=>if d=58 then tlP (okP nm) else XW 20):=fun nm=>Nz.hd (.inr rfl) fun c=>Nz.ite (Nz.ok _).tl (Nz.fail (by decide))
  have g1:Nz fun l=>(ZgY l).bind fun nm l=>(Zca Yp l).bind fun _=>hdP (.err 24 []) fun d=>if d=58 then tlP (okP nm) else XW 20:=by
    rw [ZeB]
    exact (Zze none []).bind fun nm=>(Nz.drop _).bind fun _=>g3 nm
  exact (Nz.drop _).bind fun _=>Nz.hd (.inr rfl) fun c=>Nz.ite g1.tl (Nz.fail (by decide))
theorem Zp3 {pv:BL→Out JV} (hv:Nz pv) (ob:Bool) (ns:List BL) (sub:JL):Nz (Zaw pv ob ns sub):=by
  rw [Zns]
  split
  ·exact ZtU.bind fun nm=>hv.bind fun v=>(Nz.drop _).bind fun _=>Nz.ok _
  ·exact (Nz.drop _).bind fun _=>hv.bind fun v=>(Nz.drop _).bind fun _=>Nz.ok _
theorem ZmH {pv:BL→Out JV} (hv:Nz pv) (ob:Bool):∀ (m:Nat) (ns:List BL) (sub:JL),Nz (ZdO pv ob m ns sub)
  | 0,_,_,l,e,r,h=>by cases h;exact ⟨by decide,by decide⟩
  | m+1,ns,sub,l,e,r,h=>by
    unfold ZdO at h
    split at h
    ·cases h
    split at h
    ·exact ((Zp3 hv ob ns sub).bind fun p=>ZmH hv ob m p.1 p.2) _ _ _ h
    split at h
    ·exact ((Zp3 hv ob ns sub).bind fun p=>ZmH hv ob m p.1 p.2) _ _ _ h
    ·exact Nz.fail (by decide) _ _ _ h
theorem Zvz {op:Bool→BL→Out JV} (ho:∀ b,Nz (op b)):Nz (vP op):=by
  refine (Nz.drop _).bind fun _=>Nz.hd (.inr rfl) fun c=>?_
  unfold vF
  have s0:Nz (fun l=>(ZgY l).bind fun t=>okP (⟨5,t,[],.nil⟩:JV)):=by rw [ZeB];exact (Zze none []).bind fun t=>Nz.ok _
  exact Nz.ite (ho true) (Nz.ite (ho false) (Nz.ite s0.tl (Nz.ite ((Zj6 _).bind fun _=>Nz.ok _) (Nz.ite ((Zj6 _).bind fun _=>Nz.ok _) (Nz.ite ((Zj6 _).bind fun _=>Nz.ok _) (Nz.ite (ZvQ.got.bind fun _=>Nz.ok _) (Nz.fail (by decide))))))))
theorem Znd:∀ n:Nat,Nz (ZB n)
  | 0=>by rw [Zk7];exact Zvz fun _=>Nz.fail (by decide)
  | n+1=>by
    rw [Zj9]
    exact Zvz fun b=>Nz.tl ((Nz.drop _).bind fun _=>Nz.bind (fun l e r h=>ZmH (Znd n) b _ _ _ _ _ _ h) fun p=>Nz.ok _)
theorem Zfb {l:BL} (h:l.length≤65536):Za2 l=match ZB 64 l with
    | .err e r=> .err e (l.length - r.length)
    | .ok v r=>match ZM r with
      | []=> .ok v
      | c::r'=> .err 25 (l.length - (c::r').length):=by
  unfold Za2
  rw [if_neg (by omega)]
  rfl
theorem Zfc {l:BL} (h:65536<l.length):Za2 l = .err 5 65536:=by
  unfold Za2
  rw [if_pos h]
theorem Znt {l:BL} {e k:Nat} (h:Za2 l = .err e k):e=5∨(20≤e∧e≤25):=by
  by_cases hl:l.length≤65536
  ·rw [Zfb hl] at h
   cases h1:ZB 64 l with
   | err k q=>rw [h1] at h;cases h;have:=Znd 64 _ _ _ h1;omega
   | ok v r =>
     rw [h1] at h
     simp only at h
     split at h
     ·cases h
     ·cases h;right;omega
  ·rw [Zfc (by omega)] at h;cases h;exact .inl rfl
theorem Znk:∀ {v:BL} {c:UInt8} {r':BL},ZM v=c::r'→∃ y,v=y++c::r'∧Blk y∧Yp c=false
  | [],c,r',h=>by cases h
  | d::v,c,r',h=>by
    by_cases hd:Yp d=true
    ·unfold ZM at h
     rw [List.dropWhile_cons_of_pos hd] at h
     obtain ⟨y,a,b,e⟩:=Znk h
     exact ⟨d::y,by rw [a];rfl,fun x hx=>by rcases List.mem_cons.1 hx with rfl | hx;exact hd;exact b x hx,e⟩
    ·unfold ZM at h
     rw [List.dropWhile_cons_of_neg hd] at h
     cases h
     exact ⟨[],rfl,fun x hx=>(by cases hx),by simpa using hd⟩
def ZlJ (n:Nat):UInt8:=UInt8.ofNat (if n<10 then 48+n else 87+n)
def ZcH (c:UInt8):BL :=
  if c=34∨c=92 then [92,c]
  else if c=8 then [92,98] else if c=12 then [92,102] else if c=10 then [92,110] else if c=13 then [92,114] else if c=9 then [92,116]
  else if c.toNat<32 then [92,117,48,48,ZlJ (c.toNat / 16),ZlJ (c.toNat % 16)]
  else [c]
def ZcS (t:BL):BL:=34::(t.flatMap ZcH++[34])
def prV (k:Nat) (t body:BL):BL :=
  if k=1 then [110,117,108,108] else if k=2 then [102,97,108,115,101] else if k=3 then [116,114,117,101]
  else if k=4 then t else if k=5 then ZcS t else if k=7 then 123::(body++[125]) else 91::(body++[93])
def Zhl (first:Bool):BL:=if first then [] else [44]
def nmB (ob:Bool) (ns:List BL):BL:=if ob then ZcS (ns.headD [])++[58] else []
def ZX:Bool→Bool→List BL→JL→BL
  | _,_,_,.nil=>[]
  | ob,first,ns,.cons k t ns' sub rest=>Zhl first++nmB ob ns++prV k t (ZX (decide (k=7)) true ns' sub)++ZX ob false ns.tail rest
def Xf (v:JV):BL:=prV v.k v.t (ZX (decide (v.k=7)) true v.ns v.sub)
inductive Utf:BL→Prop where
  | nil:Utf []
  | cons {x l:BL}:ZaQ x=true→Utf l→Utf (x++l)
def Zel (k:Nat) (t:BL) (ns:List BL) (sub:JL):Prop :=
  ((k=1∨k=2∨k=3)∧t=[]∧ns=[]∧sub = .nil)∨(k=4∧ZdN t = .ok () []∧t.length≤65536∧ns=[]∧sub = .nil)∨(k=5∧Utf t∧ns=[]∧sub = .nil) ∨
    (k=6∧t=[]∧ns=[])∨(k=7∧t=[]∧ns.length=sub.len∧∀ n∈ns,Utf n)
def Zcf:Nat→JL→Prop
  | _,.nil=>True
  | 0,.cons k t ns sub rest=>Zel k t ns sub∧k≠6∧k≠7∧Zcf 0 rest
  | d+1,.cons k t ns sub rest=>Zel k t ns sub∧Zcf d sub∧Zcf (d+1) rest
def Zem (d:Nat) (v:JV):Prop:=Zcf d (.cons v.k v.t v.ns v.sub .nil)
theorem Zud:∀ c:UInt8,c.toNat<128→(ZcH c=[c]∧32≤c.toNat∧c≠34∧c≠92)∨(∃ m,ZcH c=[92,m]∧Zbr m=some c) ∨
    ∃ h l,ZcH c=[92,117,48,48,h,l]∧∃ a b,ZfK h=some a∧ZfK l=some b∧a*16+b=c.toNat∧c.toNat<32:=by
  have key:∀ b:Fin 256,b.val<128→(ZcH ⟨⟨b⟩⟩=[⟨⟨b⟩⟩]∧32≤b.val∧(⟨⟨b⟩⟩:UInt8)≠34∧(⟨⟨b⟩⟩:UInt8)≠92)∨(Zbr ((ZcH ⟨⟨b⟩⟩).getD 1 0)=some ⟨⟨b⟩⟩∧ZcH ⟨⟨b⟩⟩=[92,(ZcH ⟨⟨b⟩⟩).getD 1 0]) ∨
      (b.val<32∧ZcH ⟨⟨b⟩⟩=[92,117,48,48,ZlJ (b.val / 16),ZlJ (b.val % 16)]∧ZfK (ZlJ (b.val / 16))=some (b.val / 16)∧ZfK (ZlJ (b.val % 16))=some (b.val % 16)):=by decide +kernel
  rintro ⟨⟨b⟩⟩ h
  rcases key b h with h | h | h
  ·exact .inl h
  ·exact .inr (.inl ⟨_,h.2,h.1⟩)
  ·exact .inr (.inr ⟨_,_,h.2.1,_,_,h.2.2.1,h.2.2.2,by show b.val / 16*16+b.val % 16=b.val;omega,h.1⟩)
theorem ZtB {c:UInt8} (h:c.toNat<128):Zcc (Zea c.toNat)=[c]:=by
  unfold Zea
  rw [if_neg (by omega)]
  unfold Zcc
  rw [if_pos h]
  simp
theorem ZCE {h l:UInt8} {a b:Nat} (ha:ZfK h=some a) (hb:ZfK l=some b) (r:BL):Zcl 4 0 (48::48::h::l::r) = .ok (a*16+b) r:=by
  have h0:ZfK 48=some 0:=by decide
  simp only [Zcl,h0,ha,hb]
  congr 1
  omega
theorem ZpN {x:BL} (hx:ZaQ x=true) (out r:BL):T none out (x.flatMap ZcH++r)=T none (out++x) r:=by
  rcases x with _ | ⟨c,x⟩
  ·cases hx
  by_cases hc:c.toNat<128
  ·have hx0:x=[]:=by
     simp only [ZaQ,Zlz c hc,Bool.and_eq_true,decide_eq_true_eq] at hx
     exact List.eq_nil_of_length_eq_zero (by omega)
   subst hx0
   simp only [List.flatMap_cons,List.flatMap_nil,List.append_nil]
   rw [ZuG]
   rcases Zud c hc with ⟨e,h32,h34,h92⟩ | ⟨m,e,hm⟩ | ⟨h,l,e,a,b,ha,hb,hab,h32⟩
   ·rw [e]
    show tF none out c (c::r)=_
    unfold tF
    rw [if_neg (by omega),if_neg h34,if_neg h92,if_pos hc]
    simp [tlP,flB]
   ·rw [e]
    show tF none out 92 (92::m::r)=_
    unfold tF
    rw [if_neg (by decide),if_neg (by decide),if_pos rfl]
    show (Zjj (m::r)).bind _=_
    rw [Zcd,hm]
    simp [Zg6,flB]
   ·rw [e]
    show tF none out 92 (92::117::48::48::h::l::r)=_
    unfold tF
    rw [if_neg (by decide),if_neg (by decide),if_pos rfl]
    show (Zjj (117::48::48::h::l::r)).bind _=_
    rw [Zcd,Zqn]
    simp only [↓reduceIte]
    rw [ZCE ha hb,hab]
    have hi:Zhd c.toNat=false:=by unfold Zhd;simp;omega
    simp only [Out.bind_ok,Zg6,hi,Bool.false_eq_true,↓reduceIte,ZtB hc]
  ·
   have h128:128≤c.toNat:=by omega
   have hl:=hx
   simp only [ZaQ,Bool.and_eq_true,decide_eq_true_eq] at hl
   have hn2:2≤nRb c:=by
     rcases ZsT c h128 with ⟨t0,_⟩ | ⟨_,tc,_⟩<;>omega
   have big:∀ (y:BL) (lo hi:Nat),128≤lo→okC lo hi y=true→∀ d∈y,128≤d.toNat:=by
     intro y
     induction y with
     | nil=>intro _ _ _ _ d hd;cases hd
     | cons z y ih =>
       intro lo hi hlo h d hd
       simp only [okC,Bool.and_eq_true,decide_eq_true_eq] at h
       rcases List.mem_cons.1 hd with rfl | hd
       ·omega
       ·exact ih 128 191 (Nat.le_refl _) h.2 d hd
   have all:∀ d∈c::x,128≤d.toNat:=fun d hd=>by
     rcases List.mem_cons.1 hd with rfl | hd
     ·exact h128
     ·exact big x _ _ (Zqs c hn2) hl.2 d hd
   have same:∀ y:BL,(∀ d∈y,128≤d.toNat)→y.flatMap ZcH=y:=by
     intro y
     induction y with
     | nil=>intro _;rfl
     | cons z y ih =>
       intro h
       have hz:=h z (by simp)
       rw [List.flatMap_cons,ih fun d hd=>h d (by simp [hd])]
       have:ZcH z=[z]:=by
         have key:∀ b:Fin 256,128≤b.val→ZcH ⟨⟨b⟩⟩=[⟨⟨b⟩⟩]:=by decide +kernel
         rcases z with ⟨⟨b⟩⟩
         exact key b hz
       rw [this];rfl
   rw [same _ all,ZuG]
   show tF none out c (c::(x++r))=_
   unfold tF
   have n34:c≠34:=fun e=>by rw [e] at h128;revert h128;decide
   have n92:c≠92:=fun e=>by rw [e] at h128;revert h128;decide
   rw [if_neg (by omega),if_neg n34,if_neg n92,if_neg hc]
   show (Zdn Zag (c::x++r)).bind _=_
   unfold Zdn
   rw [Zlk hx]
   simp only [Out.bind_ok,flB,List.append_nil]
   rw [ZaW]
theorem Zrz {t:BL} (h:Utf t):∀ out r,T none out (t.flatMap ZcH++r)=T none (out++t) r:=by
  induction h with
  | nil=>intro out r;simp
  | cons hx _ ih =>
    intro out r
    rw [List.flatMap_append,List.append_assoc,ZpN hx,ih,List.append_assoc]
theorem ZyI (out r:BL):T none out (34::r) = .ok out r:=by
  rw [ZuG]
  show tF none out 34 (34::r)=_
  unfold tF
  rw [if_neg (by decide),if_pos rfl]
  simp [tlP,okP,flB]
theorem Zni {t:BL} (h:Utf t) (r:BL):ZgY (t.flatMap ZcH++34::r) = .ok t r:=by
  rw [ZeB,Zrz h,ZyI,List.nil_append]
def ZpJ (r:BL):Prop:=r=[]∨∃ c l,r=c::l∧(c=44∨c=93∨c=125)
theorem Zr0 {t r:BL} (h:ZdN t = .ok () []) (hr:ZpJ r):ZdN (t++r) = .ok () r:=by
  rcases hr with rfl | ⟨c,l,rfl,hc⟩
  ·rwa [List.append_nil]
  ·have np:c≠46∧Xn c=false∧c≠101∧c≠69∧c≠43∧c≠45∧c≠48:=by
     rcases hc with rfl | rfl | rfl<;>decide
   obtain ⟨n46,nd,n101,n69,n43,n45,n48⟩:=np
   have dg:∀ {l1 q:BL},Ym l1 = .ok () q→Ym (l1++c::l) = .ok () (q++c::l):=fun {l1 q} hh=>by
     rcases l1 with _ | ⟨d,l1⟩
     ·cases hh
     ·dsimp only [Ym,List.cons_append] at hh ⊢
      split at hh
      ·rename_i hd
       cases hh
       rw [if_pos hd]
       congr 1
       by_cases ha:∀ x∈l1,Xn x=true
       ·rw [List.dropWhile_append_of_pos ha,ZlQ.2 ha,List.dropWhile_cons_of_neg (by simp [nd])];rfl
       ·clear hd h
        induction l1 with
        | nil=>exact absurd (fun x hx=>by cases hx) ha
        | cons e l1 ih =>
          by_cases he:Xn e=true
          ·rw [List.cons_append,List.dropWhile_cons_of_pos he,List.dropWhile_cons_of_pos he]
           exact ih fun hh=>ha fun x hx=>by
             rcases List.mem_cons.1 hx with rfl | hx
             ·exact he
             ·exact hh x hx
          ·rw [List.cons_append,List.dropWhile_cons_of_neg he,List.dropWhile_cons_of_neg he];rfl
      ·cases hh
   have mn:∀ l1:BL,l1≠[]→Zal (l1++c::l)=Zal l1++c::l:=fun l1 hne=>by
     rcases l1 with _ | ⟨d,l1⟩
     ·exact absurd rfl hne
     ·dsimp only [Zal,List.cons_append]
      split<;>rfl
   have it:∀ {l1 q:BL},ZfJ l1 = .ok () q→ZfJ (l1++c::l) = .ok () (q++c::l):=fun {l1 q} hh=>by
     rcases l1 with _ | ⟨d,l1⟩
     ·cases hh
     ·by_cases hd:d=48
      ·subst hd
       rw [List.cons_append,show ZfJ (48::(l1++c::l))=Za3 (l1++c::l) from rfl]
       rw [show ZfJ (48::l1)=Za3 l1 from rfl] at hh
       rcases l1 with _ | ⟨e,l1⟩
       ·cases hh
        show (if Xn c=true then _ else _)=_
        rw [if_neg (by simp [nd])];rfl
       ·dsimp only [Za3,List.cons_append] at hh ⊢
        split at hh
        ·cases hh
        ·rename_i he;cases hh;rw [if_neg he];rfl
      ·have e1:∀ w,ZfJ (d::w)=Ym (d::w):=fun w=>by
         show (if d=48 then _ else _)=_
         rw [if_neg hd]
       rw [List.cons_append,e1]
       rw [e1] at hh
       exact dg hh
   have fr:∀ {l1 q:BL},ZdS l1 = .ok () q→ZdS (l1++c::l) = .ok () (q++c::l):=fun {l1 q} hh=>by
     rcases l1 with _ | ⟨d,l1⟩
     ·cases hh
      show (if c=46 then _ else _)=_
      rw [if_neg n46];rfl
     ·dsimp only [ZdS,List.cons_append] at hh ⊢
      split at hh
      ·rename_i hd;rw [if_pos hd];exact dg hh
      ·rename_i hd;rw [if_neg hd];cases hh;rfl
   have ex:∀ {l1 q:BL},Zgi l1 = .ok () q→Zgi (l1++c::l) = .ok () (q++c::l):=fun {l1 q} hh=>by
     rcases l1 with _ | ⟨d,l1⟩
     ·cases hh
      show (if c=101∨c=69 then _ else _)=_
      rw [if_neg (by simp [n101,n69])];rfl
     ·dsimp only [Zgi,List.cons_append] at hh ⊢
      split at hh
      ·rename_i hd
       rw [if_pos hd]
       have sg:Zfm (l1++c::l)=Zfm l1++c::l:=by
         rcases l1 with _ | ⟨e,l1⟩
         ·cases hh
         ·dsimp only [Zfm,List.cons_append]
          split<;>rfl
       rw [sg]
       exact dg hh
      ·rename_i hd;rw [if_neg hd];cases hh;rfl
   obtain ⟨l1,l2,h1,h2,h3⟩:=Zho h
   have hne:t≠[]:=by
     rintro rfl
     cases h1
   unfold ZdN
   rw [mn t hne,it h1]
   simp only [Out.bind_ok]
   rw [fr h2]
   simp only [Out.bind_ok]
   rw [ex h3];rfl
theorem Znv {t:BL} (h:ZdN t = .ok () []):∃ c l,t=c::l∧(c=45∨Xn c=true):=by
  obtain ⟨l1,l2,h1,h2,h3⟩:=Zho h
  rcases t with _ | ⟨c,t⟩
  ·cases h1
  ·refine ⟨c,t,rfl,?_⟩
   by_cases hc:c=45
   ·exact .inl hc
   ·right
    have:Zal (c::t)=c::t:=by
      show (if c=45 then _ else _)=_
      rw [if_neg hc]
    rw [this] at h1
    by_cases h48:c=48
    ·subst h48;decide
    ·have:ZfJ (c::t)=Ym (c::t):=by
       show (if c=48 then _ else _)=_
       rw [if_neg h48]
     rw [this] at h1
     dsimp only [Ym] at h1
     split at h1
     ·assumption
     ·cases h1
def ZsB:JL→JL→JL
  | .nil,b=>b
  | .cons k t ns s r,b=> .cons k t ns s (ZsB r b)
theorem app_snoc (v:JV) (b:JL):∀ a:JL,ZsB (a.snoc v) b=ZsB a (.cons v.k v.t v.ns v.sub b)
  | .nil=>rfl
  | .cons _ _ _ _ r=>by simp only [JL.snoc,ZsB,app_snoc v b r]
theorem app_nil:∀ a:JL,ZsB a .nil=a
  | .nil=>rfl
  | .cons _ _ _ _ r=>by simp only [ZsB,app_nil r]
theorem ZtS (b:JL):ZsB .nil b=b:=rfl
theorem Zjp (v:JV) (a:JL):(a.snoc v).isNil=false:=by cases a<;>rfl
theorem Zkw {k:Nat} {t:BL} {ns:List BL} {sub:JL} (h:Zel k t ns sub) (body:BL):∃ c l,prV k t body=c::l∧Yp c=false∧c≠44∧c≠93∧c≠125:=by
  rcases h with ⟨hk | hk | hk,_⟩ | ⟨hk,hn,_⟩ | ⟨hk,_⟩ | ⟨hk,_⟩ | ⟨hk,_⟩<;>subst hk
  ·exact ⟨_,_,rfl,by decide,by decide,by decide,by decide⟩
  ·exact ⟨_,_,rfl,by decide,by decide,by decide,by decide⟩
  ·exact ⟨_,_,rfl,by decide,by decide,by decide,by decide⟩
  ·obtain ⟨c,l,e,hc⟩:=Znv hn
   refine ⟨c,l,e,?_,?_,?_,?_⟩
   ·cases hb:Yp c with
    | false=>rfl
    | true =>
      rcases Zdr hb with rfl | rfl | rfl | rfl<;>(rcases hc with hc | hc<;>revert hc<;>decide)
   all_goals (rintro rfl;rcases hc with hc | hc<;>revert hc<;>decide)
  ·exact ⟨_,_,rfl,by decide,by decide,by decide,by decide⟩
  ·exact ⟨_,_,rfl,by decide,by decide,by decide,by decide⟩
  ·exact ⟨_,_,rfl,by decide,by decide,by decide,by decide⟩
theorem Zap {c:UInt8} {l:BL} (h:Yp c=false):ZM (c::l)=c::l:=by
  unfold ZM;rw [List.dropWhile_cons_of_neg (by simp [h])]
theorem Zjz {n:Nat} {k:Nat} {t:BL} {ns:List BL} {sub:JL} (h:Zel k t ns sub) (h6:k≠6) (h7:k≠7) (body:BL) {r:BL} (hr:ZpJ r) :
    ZB n (prV k t body++r) = .ok ⟨k,t,ns,sub⟩ r:=by
  have go:∀ op,vP op (prV k t body++r) = .ok ⟨k,t,ns,sub⟩ r:=fun op=>by
    obtain ⟨c,l,e,hb,_⟩:=Zkw h body
    show hdP _ (vF op) (ZM (prV k t body++r))=_
    rw [show ZM (prV k t body++r)=prV k t body++r by rw [e];exact Zap hb]
    rcases h with ⟨hk,ht,hns,hsub⟩ | ⟨hk,hn,_,hns,hsub⟩ | ⟨hk,hu,hns,hsub⟩ | ⟨hk,_⟩ | ⟨hk,_⟩
    ·subst ht hns hsub
     rcases hk with hk | hk | hk<;>subst hk<;>rfl
    ·subst hk hns hsub
     obtain ⟨c,l,e,hc⟩:=Znv hn
     show hdP _ (vF op) (t++r)=_
     have hg:Zdn ZdN (t++r) = .ok t r:=by unfold Zdn;rw [Zr0 hn hr];simp only [Out.bind_ok];rw [ZaW]
     rw [e] at hg ⊢
     show vF op c (c::(l++r))=_
     have hne:c≠123∧c≠91∧c≠34∧c≠110∧c≠102∧c≠116:=by
       refine ⟨?_,?_,?_,?_,?_,?_⟩<;>(rintro rfl;rcases hc with hc | hc<;>revert hc<;>decide)
     obtain ⟨a1,a2,a3,a4,a5,a6⟩:=hne
     unfold vF
     rw [if_neg a1,if_neg a2,if_neg a3,if_neg a4,if_neg a5,if_neg a6,if_pos hc]
     show (Zdn ZdN (c::l++r)).bind _=_
     rw [hg];rfl
    ·subst hk hns hsub
     show vF op 34 (34::(t.flatMap ZcH++[34]++r))=_
     unfold vF
     rw [if_neg (by decide),if_neg (by decide),if_pos rfl]
     show (ZgY (t.flatMap ZcH++[34]++r)).bind _=_
     rw [List.append_assoc,show ([34]:BL)++r=34::r from rfl,Zni hu];rfl
    ·exact absurd hk h6
    ·exact absurd hk h7
  cases n with
  | zero=>rw [Zk7];exact go _
  | succ n=>rw [Zj9];exact go _
theorem Zot (ob:Bool) (ns:List BL) (rest:JL) (r:BL):ZpJ (ZX ob false ns rest++Zcz ob::r):=by
  right
  cases rest with
  | nil=>exact ⟨_,_,rfl,by cases ob<;>simp [Zcz]⟩
  | cons k t ns' sub rest=>exact ⟨44,_,rfl,.inl rfl⟩
theorem ZlC {n:Nat} (hv:∀ k t ns sub r,Zcf n (.cons k t ns sub .nil)→ZpJ r→ZB n (prV k t (ZX (decide (k=7)) true ns sub)++r) = .ok ⟨k,t,ns,sub⟩ r) (ob:Bool) (r:BL) :
    ∀ (rest:JL) (ns ns0:List BL) (sub0:JL),Zcf n rest→(ob=true→ns.length=rest.len∧∀ m∈ns,Utf m)→(ob=false→ns=[]) →
      L (ZB n) ob ns0 sub0 (ZX ob sub0.isNil ns rest++Zcz ob::r) = .ok (ns0++ns,ZsB sub0 rest) r
  | .nil,ns,ns0,sub0,_,h1,h2=>by
    have hn:ns=[]:=by
      cases ob with
      | false=>exact h2 rfl
      | true=>exact List.eq_nil_of_length_eq_zero (by rw [(h1 rfl).1];rfl)
    subst hn
    rw [Zo7 (Xb n).1 (Xb n).2 (Zes n)]
    show lF (ZB n) ob ns0 sub0 (Zcz ob) (Zcz ob::r)=_
    unfold lF
    rw [if_pos rfl,app_nil,List.append_nil];rfl
  | .cons k t ns' sub rest,ns,ns0,sub0,hr,h1,h2=>by
    have hr1:Zcf n (.cons k t ns' sub .nil)∧Zcf n rest∧Zel k t ns' sub:=by
      cases n with
      | zero=>exact ⟨⟨hr.1,hr.2.1,hr.2.2.1,trivial⟩,hr.2.2.2,hr.1⟩
      | succ n=>exact ⟨⟨hr.1,hr.2.1,trivial⟩,hr.2.2,hr.1⟩
    obtain ⟨hr1,hr2,hk⟩:=hr1
    have ih:=fun ns1 sub1=>ZlC hv ob r rest ns.tail ns1 sub1 hr2
    have hst:=Zot ob ns.tail rest r
    obtain ⟨c,l,ec,hb,hc44,hc93,hc125⟩:=Zkw hk (ZX (decide (k=7)) true ns' sub)
    have part:Zaw (ZB n) ob ns0 sub0 (nmB ob ns++prV k t (ZX (decide (k=7)) true ns' sub)++(ZX ob false ns.tail rest++Zcz ob::r)) =
        .ok (if ob then ns0++[ns.headD []] else ns0,sub0.snoc ⟨k,t,ns',sub⟩) (ZX ob false ns.tail rest++Zcz ob::r):=by
      have hsk:ZM (ZX ob false ns.tail rest++Zcz ob::r)=ZX ob false ns.tail rest++Zcz ob::r:=by
        cases rest with
        | nil=>exact Zap (by cases ob<;>decide)
        | cons k2 t2 ns2 sub2 rest2=>exact Zap (c:=44) (by decide)
      have hv1:=hv k t ns' sub _ hr1 hst
      cases ob with
      | false =>
        show (ZB n (ZM _)).bind _=_
        have hs2:ZM (prV k t (ZX (decide (k=7)) true ns' sub)++(ZX false false ns.tail rest++Zcz false::r))=prV k t (ZX (decide (k=7)) true ns' sub)++(ZX false false ns.tail rest++Zcz false::r):=by rw [ec];exact Zap hb
        rw [show nmB false ns=[] from rfl,List.nil_append,hs2,hv1]
        simp only [Out.bind_ok,hsk];rfl
      | true =>
        have hu:Utf (ns.headD []):=by
          cases ns with
          | nil=>exact .nil
          | cons a ns=>exact (h1 rfl).2 a (by simp)
        show (Zbp _).bind _=_
        have hnm:∀ w,Zbp (nmB true ns++w) = .ok (ns.headD []) w:=fun w=>by
          rw [show nmB true ns++w=34::((ns.headD []).flatMap ZcH++34::(58::w)) by simp [nmB,ZcS]]
          unfold Zbp
          rw [Zap (by decide)]
          simp only [↓reduceIte]
          rw [Zni hu]
          simp only [Out.bind_ok]
          rw [Zap (by decide)]
          simp
        rw [List.append_assoc,hnm]
        simp only [Out.bind_ok]
        rw [hv1]
        simp only [Out.bind_ok,hsk];rfl
    have fin:L (ZB n) ob (if ob then ns0++[ns.headD []] else ns0) (sub0.snoc ⟨k,t,ns',sub⟩) (ZX ob false ns.tail rest++Zcz ob::r) = .ok (ns0++ns,ZsB sub0 (.cons k t ns' sub rest)) r:=by
      have:=ih (if ob then ns0++[ns.headD []] else ns0) (sub0.snoc ⟨k,t,ns',sub⟩) (fun h=>by
          subst h
          obtain ⟨a,b⟩:=h1 rfl
          cases ns with
          | nil=>cases a
          | cons m ns=>exact ⟨by simpa [JL.len] using a,fun x hx=>b x (by simp at hx;simp [hx])⟩) (fun h=>by rw [h2 h];rfl)
      rw [Zjp,app_snoc] at this
      rw [this]
      congr 2
      cases ob with
      | false=>rw [h2 rfl];rfl
      | true =>
        cases ns with
        | nil=>have:=(h1 rfl).1;cases this
        | cons m ns=>simp
    rw [Zo7 (Xb n).1 (Xb n).2 (Zes n)]
    have first:∀ w:BL,∃ d l2,nmB ob ns++prV k t (ZX (decide (k=7)) true ns' sub)++w=d::l2∧d≠Zcz ob:=fun w=>by
      cases ob with
      | false=>rw [ec];exact ⟨c,_,rfl,hc93⟩
      | true=>exact ⟨34,_,rfl,by decide⟩
    show hdP _ _ (Zhl sub0.isNil++nmB ob ns++prV k t (ZX (decide (k=7)) true ns' sub)++ZX ob false ns.tail rest++Zcz ob::r)=_
    cases hs:sub0.isNil with
    | true =>
      rw [show Zhl true++nmB ob ns++prV k t (ZX (decide (k=7)) true ns' sub)++ZX ob false ns.tail rest++Zcz ob::r=nmB ob ns++prV k t (ZX (decide (k=7)) true ns' sub)++(ZX ob false ns.tail rest++Zcz ob::r) by simp [Zhl]]
      obtain ⟨d,l2,e2,hd⟩:=first (ZX ob false ns.tail rest++Zcz ob::r)
      rw [e2] at part ⊢
      show lF (ZB n) ob ns0 sub0 d (d::l2)=_
      unfold lF
      rw [if_neg hd,if_pos hs]
      show (Zaw (ZB n) ob ns0 sub0 (d::l2)).bind _=_
      rw [part]
      exact fin
    | false =>
      rw [show Zhl false++nmB ob ns++prV k t (ZX (decide (k=7)) true ns' sub)++ZX ob false ns.tail rest++Zcz ob::r=44::(nmB ob ns++prV k t (ZX (decide (k=7)) true ns' sub)++(ZX ob false ns.tail rest++Zcz ob::r)) by simp [Zhl]]
      show lF (ZB n) ob ns0 sub0 44 (44::_)=_
      unfold lF
      rw [if_neg (by cases ob<;>decide),if_neg (by simp [hs]),if_pos rfl]
      show (Zaw (ZB n) ob ns0 sub0 _).bind _=_
      rw [part]
      exact fin
theorem Zjh:∀ (n:Nat) (k:Nat) (t:BL) (ns:List BL) (sub:JL) (r:BL),Zcf n (.cons k t ns sub .nil)→ZpJ r→ZB n (prV k t (ZX (decide (k=7)) true ns sub)++r) = .ok ⟨k,t,ns,sub⟩ r
  | 0,k,t,ns,sub,r,h,hr=>Zjz h.1 h.2.1 h.2.2.1 _ hr
  | n+1,k,t,ns,sub,r,h,hr=>by
    have lists:∀ ob:Bool,k=(if ob then 7 else 6)→t=[]→(ob=true→ns.length=sub.len∧∀ m∈ns,Utf m)→(ob=false→ns=[])→ZB (n+1) (prV k t (ZX (decide (k=7)) true ns sub)++r) = .ok ⟨k,t,ns,sub⟩ r:=fun ob hk ht h1 h2=>by
      subst ht
      have hl:=ZlC (fun k t ns sub r=>Zjh n k t ns sub r) ob r sub ns [] .nil h.2.1 h1 h2
      have hsk:ZM (ZX ob true ns sub++Zcz ob::r)=ZX ob true ns sub++Zcz ob::r:=by
        cases sub with
        | nil=>exact Zap (by cases ob<;>decide)
        | cons k2 t2 ns2 sub2 rest2 =>
          have hk2:Zel k2 t2 ns2 sub2:=by
            have:=h.2.1
            cases n<;>exact this.1
          cases ob with
          | true=>exact Zap (c:=34) (by decide)
          | false =>
            obtain ⟨c,l,e,hb,_⟩:=Zkw hk2 (ZX (decide (k2=7)) true ns2 sub2)
            show ZM (Zhl true++nmB false ns++prV k2 t2 _++_++_)=Zhl true++nmB false ns++prV k2 t2 _++_++_
            rw [e]
            exact Zap hb
      have hopen:opP (ZB n) ob ((if ob then 123 else 91)::(ZX ob true ns sub++Zcz ob::r)) = .ok ⟨k,[],ns,sub⟩ r:=by
        show (L (ZB n) ob [] .nil (ZM (ZX ob true ns sub++Zcz ob::r))).bind _=_
        rw [hsk]
        rw [show ZX ob true ns sub=ZX ob (JL.nil).isNil ns sub from rfl,hl,ZtS]
        rw [hk]
        rfl
      rw [Zj9]
      show hdP _ (vF _) (ZM _)=_
      cases ob with
      | true =>
        simp only [↓reduceIte] at hk
        subst hk
        rw [show prV 7 [] (ZX (decide (7=7)) true ns sub)++r=123::(ZX true true ns sub++Zcz true::r) by simp [prV,Zcz],Zap (by decide)]
        exact hopen
      | false =>
        simp only [Bool.false_eq_true,↓reduceIte] at hk
        subst hk
        rw [show prV 6 [] (ZX (decide (6=7)) true ns sub)++r=91::(ZX false true ns sub++Zcz false::r) by simp [prV,Zcz],Zap (by decide)]
        exact hopen
    by_cases h6:k=6
    ·refine lists false h6 ?_ (fun h=>by cases h) fun _=>?_
     ·rcases h.1 with ⟨hk,_⟩ | ⟨hk,_⟩ | ⟨hk,_⟩ | ⟨_,ht,_⟩ | ⟨_,ht,_⟩
      ·omega
      ·omega
      ·omega
      ·exact ht
      ·exact ht
     ·rcases h.1 with ⟨hk,_⟩ | ⟨hk,_⟩ | ⟨hk,_⟩ | ⟨_,_,hn⟩ | ⟨hk,_⟩
      ·omega
      ·omega
      ·omega
      ·exact hn
      ·omega
    by_cases h7:k=7
    ·rcases h.1 with ⟨hk,_⟩ | ⟨hk,_⟩ | ⟨hk,_⟩ | ⟨hk,_⟩ | ⟨_,ht,hn⟩
     ·omega
     ·omega
     ·omega
     ·omega
     ·exact lists true h7 ht (fun _=>hn) fun h=>by cases h
    ·exact Zjz h.1 h6 h7 _ hr
theorem Zoy {v:JV} (h:Zem 64 v) (hl:(Xf v).length≤65536):Za2 (Xf v) = .ok v:=by
  rw [Zfb hl]
  have:=Zjh 64 v.k v.t v.ns v.sub [] h (.inl rfl)
  rw [List.append_nil] at this
  unfold Xf
  rw [this]
  rfl
theorem Utf.app {a b:BL} (ha:Utf a) (hb:Utf b):Utf (a++b):=by
  induction ha with
  | nil=>exact hb
  | cons hx _ ih=>rw [List.append_assoc];exact .cons hx ih
theorem Utf.one {x:BL} (h:ZaQ x=true):Utf x:=by
  have:=Utf.cons h .nil
  rwa [List.append_nil] at this
theorem ZmJ {c:UInt8} {d:Nat} (h:ZfK c=some d):d<16:=by
  unfold ZfK at h
  split at h
  ·cases h;omega
  split at h
  ·cases h;omega
  split at h
  ·cases h;omega
  ·cases h
theorem Zik:∀ (k:Nat) {n m:Nat} {l r:BL},Zcl k n l = .ok m r→m<(n+1)*16 ^ k
  | 0,n,m,_,_,h=>by cases h;omega
  | k+1,n,m,[],_,h=>by cases h
  | k+1,n,m,c::l,r,h=>by
    unfold Zcl at h
    cases hd:ZfK c with
    | none=>simp only [hd] at h;cases h
    | some d =>
      simp only [hd] at h
      have h1:=Zik k h
      have h2:=ZmJ hd
      have h3:n*16+d+1≤(n+1)*16:=by omega
      have h4:(n*16+d+1)*16 ^ k≤((n+1)*16)*16 ^ k:=Nat.mul_le_mul_right _ h3
      rw [Nat.pow_succ]
      have h5:(n+1)*16*16 ^ k=(n+1)*(16 ^ k*16):=by rw [Nat.mul_assoc,Nat.mul_comm 16]
      omega
theorem Zct {n:Nat} (h:n<256):(UInt8.ofNat n).toNat=n:=by simp;omega
theorem Zhh {n:Nat} (h:n<1114112) (hs:n<55296∨57344≤n):ZaQ (Zcc n)=true:=by
  unfold Zcc
  split
  ·rename_i h1
   have:=Zlz (UInt8.ofNat n) (by rw [Zct (by omega)];exact h1)
   simp [ZaQ,this,okC]
  split
  ·rename_i h1 h2
   have ht:Zgr (UInt8.ofNat (192+n / 64)).toNat=(2,128,191):=by
     rw [Zct (by omega)];unfold Zgr;rw [if_neg (by omega),if_pos (by omega)]
   have hb:(UInt8.ofNat (128+n % 64)).toNat=128+n % 64:=Zct (by omega)
   simp only [ZaQ,nRb,loR,hiR,ht,okC,hb,Bool.and_eq_true,decide_eq_true_eq,List.length_cons,List.length_nil,and_true]
   omega
  split
  ·rename_i h1 h2 h3
   have b1:(UInt8.ofNat (224+n / 4096)).toNat=224+n / 4096:=Zct (by omega)
   have b2:(UInt8.ofNat (128+n / 64 % 64)).toNat=128+n / 64 % 64:=Zct (by omega)
   have b3:(UInt8.ofNat (128+n % 64)).toNat=128+n % 64:=Zct (by omega)
   have ht:Zgr (UInt8.ofNat (224+n / 4096)).toNat=(3,if n / 4096=0 then 160 else 128,if n / 4096=13 then 159 else 191):=by
     rw [b1];unfold Zgr
     rw [if_neg (by omega),if_neg (by omega)]
     by_cases c0:n / 4096=0
     ·rw [if_pos (by omega),if_pos c0,if_neg (by omega)]
     ·rw [if_neg (by omega),if_neg c0]
      by_cases c13:n / 4096=13
      ·rw [if_pos (by omega),if_pos c13]
      ·rw [if_neg (by omega),if_pos (by omega),if_neg c13]
   simp only [ZaQ,nRb,loR,hiR,ht,okC,b2,b3,Bool.and_eq_true,decide_eq_true_eq,List.length_cons,List.length_nil,and_true]
   refine ⟨by omega,⟨?_,?_⟩,by omega⟩
   ·split<;>omega
   ·split<;>omega
  ·rename_i h1 h2 h3
   have b1:(UInt8.ofNat (240+n / 262144)).toNat=240+n / 262144:=Zct (by omega)
   have b2:(UInt8.ofNat (128+n / 4096 % 64)).toNat=128+n / 4096 % 64:=Zct (by omega)
   have b3:(UInt8.ofNat (128+n / 64 % 64)).toNat=128+n / 64 % 64:=Zct (by omega)
   have b4:(UInt8.ofNat (128+n % 64)).toNat=128+n % 64:=Zct (by omega)
   have ht:Zgr (UInt8.ofNat (240+n / 262144)).toNat=(4,if n / 262144=0 then 144 else 128,if n / 262144=4 then 143 else 191):=by
     rw [b1];unfold Zgr
     rw [if_neg (by omega),if_neg (by omega),if_neg (by omega),if_neg (by omega),if_neg (by omega)]
     by_cases c0:n / 262144=0
     ·rw [if_pos (by omega),if_pos c0,if_neg (by omega)]
     ·rw [if_neg (by omega),if_neg c0]
      by_cases c4:n / 262144=4
      ·rw [if_neg (by omega),if_pos (by omega),if_pos c4]
      ·rw [if_pos (by omega),if_neg c4]
   simp only [ZaQ,nRb,loR,hiR,ht,okC,b2,b3,b4,Bool.and_eq_true,decide_eq_true_eq,List.length_cons,List.length_nil,and_true]
   refine ⟨by omega,⟨?_,?_⟩,by omega⟩
   ·split<;>omega
   ·split<;>omega
theorem ZqQ {k:Nat} (h:k<65536):ZaQ (Zcc (Zea k))=true:=by
  unfold Zea
  split
  ·exact Zhh (by decide) (.inr (by decide))
  ·exact Zhh (by omega) (by omega)
theorem ZkL:ZaQ (Zcc 65533)=true:=Zhh (by decide) (.inr (by decide))
theorem Zr4:∀ c m:UInt8,Zbr c=some m→m.toNat<128:=by
  intro c m h
  unfold Zbr at h
  repeat' split at h
  all_goals (cases h;try decide)
theorem Zp9 {c:UInt8} (h:c.toNat<128):ZaQ [c]=true:=by simp [ZaQ,Zlz c h,okC]
theorem Zwd (p:Option Nat):Utf (flB p):=by
  cases p with
  | none=>exact .nil
  | some n=>exact Utf.one ZkL
theorem Zhi:∀ (n:Nat) (p:Option Nat) (out l t r:BL),Utf out→(∀ k,p=some k→Zhd k=true)→ZbQ n p out l = .ok t r→Utf t
  | 0,_,_,_,_,_,_,_,h=>by cases h
  | n+1,p,out,[],_,_,_,_,h=>by cases h
  | n+1,p,out,c::l,t,r,ho,hp,h=>by
    have hof:Utf (out++flB p):=ho.app (Zwd p)
    rw [Zbm] at h
    split at h
    ·cases h
    split at h
    ·cases h;exact hof
    split at h
    ·cases ht:Zjj l with
     | err k q=>rw [ht] at h;cases h
     | ok k q =>
       rw [ht] at h
       have hk:(∀ j,(Zg6 p out k).1=some j→Zhd j=true)∧Utf (Zg6 p out k).2:=by
         cases k with
         | ch m =>
           refine ⟨fun j hj=>(by cases hj),hof.app (Utf.one (Zp9 ?_))⟩
           rcases l with _ | ⟨d,l⟩
           ·cases ht
           ·rw [Zcd] at ht
            cases hm:Zbr d with
            | some m'=>rw [hm] at ht;cases ht;exact Zr4 _ _ hm
            | none =>
              rw [hm] at ht
              simp only at ht
              split at ht
              ·obtain ⟨_,_,_,h2⟩:=ZR ht;cases h2
              ·cases ht
         | uni m =>
           have hm:m<65536:=by
             rcases l with _ | ⟨d,l⟩
             ·cases ht
             ·rw [Zcd] at ht
              cases hm:Zbr d with
              | some m'=>rw [hm] at ht;cases ht
              | none =>
                rw [hm] at ht
                simp only at ht
                split at ht
                ·obtain ⟨x,l1,h1,h2⟩:=ZR ht
                 cases h2
                 have:=Zik 4 h1
                 omega
                ·cases ht
           cases p with
           | none =>
             unfold Zg6
             simp only
             split
             ·rename_i hh;exact ⟨fun j hj=>by cases hj;exact hh,ho⟩
             ·exact ⟨fun j hj=>(by cases hj),ho.app (Utf.one (ZqQ hm))⟩
           | some k =>
             have hk:=hp k rfl
             unfold Zg6
             simp only
             split
             ·rename_i hl
              refine ⟨fun j hj=>(by cases hj),ho.app (Utf.one (Zhh ?_ (.inr ?_)))⟩
              ·simp [Zhd,Zk2] at hk hl;unfold Zfo;omega
              ·unfold Zfo;omega
             split
             ·rename_i hh;exact ⟨fun j hj=>by cases hj;exact hh,ho.app (Utf.one ZkL)⟩
             ·exact ⟨fun j hj=>(by cases hj),(ho.app (Utf.one ZkL)).app (Utf.one (ZqQ hm))⟩
       exact Zhi n _ _ _ _ _ hk.2 hk.1 h
    split at h
    ·rename_i hc
     exact Zhi n _ _ _ _ _ (hof.app (Utf.one (Zp9 hc))) (fun k hk=>by cases hk) h
    ·cases ht:Zag (c::l) with
     | err k q=>rw [ht] at h;cases h
     | ok k q =>
       rw [ht] at h
       obtain ⟨x,e,hx⟩:=ZhP ht
       refine Zhi n _ _ _ _ _ (hof.app (Utf.one ?_)) (fun k hk=>by cases hk) h
       rw [e,ZaW]
       exact hx
theorem ZpH {l t r:BL} (h:ZgY l = .ok t r):Utf t:=by
  rw [ZeB] at h
  exact Zhi _ _ _ _ _ _ .nil (fun k hk=>by cases hk) h
theorem Zt4 {l t r:BL} (h:Zdn ZdN l = .ok t r):ZdN t = .ok () []∧t.length+r.length=l.length:=by
  obtain ⟨⟨a,h1⟩,e⟩:=ZeP h
  obtain ⟨x,rfl⟩:=Zfe.sf.suf h1
  rw [ZaW] at e
  subst e
  refine ⟨?_,by simp⟩
  rcases r with _ | ⟨c,r⟩
  ·rwa [List.append_nil] at h1
  ·exact (Zfe.pe (t.length+1)).cutO (by omega) h1
def ZdI:JL→Nat
  | .nil=>0
  | .cons _ _ _ sub rest=>1+ZdI sub+ZdI rest
def Zeq (v:JV):Nat:=1+ZdI v.sub
theorem ZkV (v:JV):∀ l:JL,ZdI (l.snoc v)=ZdI l+Zeq v
  | .nil=>by simp [JL.snoc,ZdI,Zeq]
  | .cons _ _ _ _ r=>by simp only [JL.snoc,ZdI,ZkV v r];omega
theorem Ze8 {d:Nat} {v:JV} (hv:Zem d v):∀ {l:JL},Zcf d l→Zcf d (l.snoc v)
  | .nil,_=>hv
  | .cons k t ns s r,h=>by
    cases d with
    | zero=>exact ⟨h.1,h.2.1,h.2.2.1,Ze8 hv h.2.2.2⟩
    | succ d=>exact ⟨h.1,h.2.1,Ze8 hv h.2.2⟩
theorem ZoC {l nm r:BL} (h:Zbp l = .ok nm r):Utf nm∧r.length+1≤l.length:=by
  refine ⟨?_,Zf6.2.len h⟩
  unfold Zbp at h
  split at h
  ·split at h
   ·obtain ⟨t,l2,h1,h2⟩:=ZR h
    split at h2
    ·split at h2
     ·cases h2;exact ZpH h1
     ·cases h2
    ·cases h2
   ·cases h
  ·cases h
theorem ZbM (l:BL):(ZM l).length≤l.length:=(Zli l).length_le
def ZiL (d:Nat) (ob:Bool) (ns:List BL) (sub:JL):Prop:=Zcf d sub∧(ob=true→ns.length=sub.len∧∀ m∈ns,Utf m)∧(ob=false→ns=[])
theorem ZjH {d:Nat} (hv:∀ l v r,l.length≤65536→ZB d l = .ok v r→Zem d v∧Zeq v+r.length≤l.length) (ob:Bool):∀ (m:Nat) (ns:List BL) (sub:JL) (l:BL) (p:List BL × JL) (r:BL),
    l.length≤65536→ZiL d ob ns sub→ZdO (ZB d) ob m ns sub l = .ok p r→ZiL d ob p.1 p.2∧ZdI p.2+r.length≤ZdI sub+l.length
  | 0,_,_,_,_,_,_,_,h=>by cases h
  | m+1,ns,sub,l,p,r,hlen,ho,h=>by
    have part:∀ l' q w,l'.length≤65536→Zaw (ZB d) ob ns sub l' = .ok q w→ZiL d ob q.1 q.2∧ZdI q.2+w.length≤ZdI sub+l'.length:=fun l' q w hlq hq=>by
      unfold Zaw at hq
      split at hq
      ·rename_i hob
       obtain ⟨nm,l3,h1,h2⟩:=ZR hq
       obtain ⟨v,l4,h3,h4⟩:=ZR h2
       cases h4
       obtain ⟨a,b⟩:=ZoC h1
       obtain ⟨c,e⟩:=hv _ _ _ (by omega) h3
       obtain ⟨o1,o2,o3⟩:=ho
       refine ⟨⟨Ze8 c o1,fun _=>⟨?_,?_⟩,fun hh=>?_⟩,?_⟩
       ·simp only [List.length_append,JL.len_snoc,(o2 hob).1,List.length_singleton]
       ·intro x hx
        rcases List.mem_append.1 hx with hx | hx
        ·exact (o2 hob).2 x hx
        ·simp at hx;rw [hx];exact a
       ·rw [hob] at hh;cases hh
       ·dsimp only
        rw [ZkV]
        have:=ZbM l4
        omega
      ·rename_i hob
       obtain ⟨v,l4,h3,h4⟩:=ZR hq
       cases h4
       obtain ⟨c,e⟩:=hv _ _ _ (by have:=ZbM l';omega) h3
       obtain ⟨o1,o2,o3⟩:=ho
       refine ⟨⟨Ze8 c o1,fun hh=>absurd hh hob,fun hh=>o3 hh⟩,?_⟩
       dsimp only
       rw [ZkV]
       have:=ZbM l4
       have:=ZbM l'
       omega
    have go:∀ l',l'.length≤l.length→((Zaw (ZB d) ob ns sub l').bind fun p l2=>ZdO (ZB d) ob m p.1 p.2 l2) = .ok p r→ZiL d ob p.1 p.2∧ZdI p.2+r.length≤ZdI sub+l.length:=fun l' hl hq=>by
      obtain ⟨q,w,h1,h2⟩:=ZR hq
      obtain ⟨a,b⟩:=part _ _ _ (by omega) h1
      have:=(Zcg (Xb d).1 (Xb d).2 ob ns sub).2.len h1
      obtain ⟨c,e⟩:=ZjH hv ob m _ _ _ _ _ (by omega) a h2
      exact ⟨c,by omega⟩
    unfold ZdO at h
    split at h
    ·cases h;exact ⟨ho,by simp⟩
    split at h
    ·exact go _ (Nat.le_refl _) h
    split at h
    ·exact go _ (by simp) h
    ·cases l<;>cases h
theorem Zh3 {op:Bool→BL→Out JV} {d:Nat} (hop:∀ b c l v r,(c::l).length≤65536→op b (c::l) = .ok v r→Zem d v∧Zeq v+r.length≤(c::l).length):∀ l v r,l.length≤65536→Zdv op l = .ok v r→Zem d v∧Zeq v+r.length≤l.length:=by
  intro l v r hlen h
  have hsk:=ZbM l
  have rj:∀ {k:Nat} {t:BL},Zel k t [] .nil→k≠6→k≠7→Zem d ⟨k,t,[],.nil⟩:=fun {k t} hk h6 h7=>by
    cases d with
    | zero=>exact ⟨hk,h6,h7,trivial⟩
    | succ d=>exact ⟨hk,trivial,trivial⟩
  unfold Zdv at h
  split at h
  ·cases h
  ·rename_i c l1 e
   rw [e] at hsk
   split at h
   ·have:=hop _ _ _ _ _ (by omega) h;exact ⟨this.1,by omega⟩
   split at h
   ·have:=hop _ _ _ _ _ (by omega) h;exact ⟨this.1,by omega⟩
   split at h
   ·obtain ⟨t,r1,h1,h2⟩:=ZR h
    cases h2
    have hl:r.length+1≤l1.length:=by rw [ZeB] at h1;exact (ZwK none []).len h1
    exact ⟨rj (.inr (.inr (.inl ⟨rfl,ZpH h1,rfl,rfl⟩))) (by decide) (by decide),by simp [Zeq,ZdI] at hsk ⊢;omega⟩
   split at h
   ·obtain ⟨t,r1,h1,h2⟩:=ZR h
    cases h2
    have hl:=(Zdc [110,117,108,108] (by decide)).2.len h1
    exact ⟨rj (.inl ⟨.inl rfl,rfl,rfl,rfl⟩) (by decide) (by decide),by simp [Zeq,ZdI] at hsk hl ⊢;omega⟩
   split at h
   ·obtain ⟨t,r1,h1,h2⟩:=ZR h
    cases h2
    have hl:=(Zdc [102,97,108,115,101] (by decide)).2.len h1
    exact ⟨rj (.inl ⟨.inr (.inl rfl),rfl,rfl,rfl⟩) (by decide) (by decide),by simp [Zeq,ZdI] at hsk hl ⊢;omega⟩
   split at h
   ·obtain ⟨t,r1,h1,h2⟩:=ZR h
    cases h2
    have hl:=(Zdc [116,114,117,101] (by decide)).2.len h1
    exact ⟨rj (.inl ⟨.inr (.inr rfl),rfl,rfl,rfl⟩) (by decide) (by decide),by simp [Zeq,ZdI] at hsk hl ⊢;omega⟩
   split at h
   ·obtain ⟨t,r1,h1,h2⟩:=ZR h
    cases h2
    have hg:Zdn ZdN (c::l1) = .ok (upto (c::l1) r) r:=by unfold Zdn;rw [h1];rfl
    obtain ⟨a,b⟩:=Zt4 hg
    have hl:=Zs3.len h1
    exact ⟨rj (.inr (.inl ⟨rfl,a,by omega,rfl,rfl⟩)) (by decide) (by decide),by simp [Zeq,ZdI] at hsk hl ⊢;omega⟩
   ·cases h
theorem ZhD:∀ (d:Nat) (l:BL) (v:JV) (r:BL),l.length≤65536→ZB d l = .ok v r→Zem d v∧Zeq v+r.length≤l.length
  | 0,l,v,r,hlen,h=>Zh3 (op:=fun _ l=>XW 23 l) (fun b c l v r _ h=>by cases h) l v r hlen h
  | d+1,l,v,r,hlen,h=>by
    refine Zh3 (op:=Zky (ZB d)) (fun b c l v r hl h=>?_) l v r hlen h
    obtain ⟨p,q,h1,h2⟩:=ZR h
    cases h2
    have hs:=ZbM l
    have h0:ZiL d b [] .nil:=⟨by cases d<;>exact trivial,fun _=>⟨rfl,fun m hm=>by cases hm⟩,fun _=>rfl⟩
    obtain ⟨⟨o1,o2,o3⟩,o4⟩:=ZjH (ZhD d) b _ _ _ _ _ _ (by simp at hl ⊢;omega) h0 h1
    refine ⟨⟨?_,o1,trivial⟩,?_⟩
    ·cases b with
     | true=>exact .inr (.inr (.inr (.inr ⟨rfl,rfl,o2 rfl⟩)))
     | false=>exact .inr (.inr (.inr (.inl ⟨rfl,rfl,o3 rfl⟩)))
    ·have e:ZdI JL.nil=0:=rfl
     have hs':(ZM (c::l).tail).length≤l.length:=hs
     simp only [Zeq,List.length_cons]
     omega
theorem ZfC {l:BL} {v:JV} (h:Za2 l = .ok v):Zem 64 v∧Zeq v≤65536∧l.length≤65536:=by
  by_cases hl:l.length≤65536
  ·rw [Zfb hl] at h
   cases h1:ZB 64 l with
   | err k q=>rw [h1] at h;cases h
   | ok w r =>
     rw [h1] at h
     simp only at h
     obtain ⟨a,b⟩:=ZhD 64 l w r hl h1
     split at h
     ·cases h
      exact ⟨a,by omega,hl⟩
     ·cases h
  ·rw [Zfc (by omega)] at h;cases h
end Go.Js
namespace Go.Proofs.YtpjbjdheeemdiaaGreatDoor
open Go Go.Fw Go.Js
theorem Zhz {n:Int} (h0 : -2147483648≤n) (h1:n≤2147483647):IntKind.wrap .i32 n=n:=by
  unfold IntKind.wrap
  have hb:(2:Int) ^ IntKind.i32.bits=4294967296:=by decide
  have hb':(2:Int) ^ (IntKind.i32.bits - 1)=2147483648:=by decide
  have hs:IntKind.i32.signed=true:=rfl
  simp only [hb,hb',hs,Bool.true_and]
  rcases Int.lt_or_le n 0 with h | h
  ·have:n % 4294967296=n+4294967296:=by omega
   rw [this,if_pos (by simp;omega)]
   omega
  ·have:n % 4294967296=n:=by omega
   rw [this,if_neg (by simp;omega)]
theorem Zty {n:Int} (h0:0≤n) (h1:n<4294967296):IntKind.wrap .u32 n=n:=by
  unfold IntKind.wrap
  have hb:(2:Int) ^ IntKind.u32.bits=4294967296:=by decide
  have hs:IntKind.u32.signed=false:=rfl
  simp only [hb,hs,Bool.false_and,Bool.false_eq_true,if_false]
  omega
theorem ZvG {n k:Nat} (hk:k≤20) (h:n*2 ^ k<2147483648):Znl .i32 (n:Int) (k:Int)=((n*2 ^ k:Nat):Int):=by
  unfold Znl
  rw [Int.toNat_natCast,show min k IntKind.i32.bits=k from Nat.min_eq_left (by show k≤32;omega)]
  rw [show (n:Int)*2 ^ k=((n*2 ^ k:Nat):Int) by push_cast;rfl,Zhz (by omega) (by omega)]
theorem ZCB {a d:Nat} (ha:a*16<2147483648) (hd:d<16):orV .i32 ((a*16:Nat):Int) (d:Int)=((a*16+d:Nat):Int):=by
  unfold orV
  have hb:IntKind.i32.bits=32:=rfl
  rw [hb,BitVec.ofInt_natCast,BitVec.ofInt_natCast,BitVec.toNat_or,BitVec.toNat_ofNat,BitVec.toNat_ofNat,Nat.mod_eq_of_lt (by omega),Nat.mod_eq_of_lt (by omega)]
  have h1:a*16+d=a*16 ||| d:=by
    have:=Nat.shiftLeft_add_eq_or_of_lt (b:=d) (i:=4) (by omega) a
    rwa [Nat.shiftLeft_eq] at this
  rw [← h1,Zhz (by omega) (by omega)]
theorem Zij {N c:Nat} {d:Nat} (hN:N<65536) (hd:d<16) {x:Int} (hx:x=(d:Int)):orV .i32 (Znl .i32 (N:Int) 4) (IntKind.wrap .i32 x)=((N*16+d:Nat):Int):=by
  subst hx
  rw [show ((4:Int))=((4:Nat):Int) from rfl,ZvG (by omega) (by omega),Zhz (by omega) (by omega)]
  exact ZCB (by omega) hd
theorem Zoi {n k:Nat} (hk:k≤20):ZhO .i32 (n:Int) (k:Int)=((n / 2 ^ k:Nat):Int):=by
  unfold ZhO
  rw [Int.toNat_natCast,show min k IntKind.i32.bits=k from Nat.min_eq_left (by show k≤32;omega)]
  have:(2:Int) ^ k=((2 ^ k:Nat):Int):=by push_cast;rfl
  rw [this,Int.fdiv_eq_ediv_of_nonneg _ (Int.natCast_nonneg _)]
  rfl
theorem w8 (n:Nat):IntKind.wrap .u8 (n:Int)=((n % 256:Nat):Int):=by rw [Zk4];rfl
theorem ZyG {a:Nat} (ha:a<256):Zht .u8 (a:Int) 63=((a % 64:Nat):Int):=by
  have:∀ b:Fin 256,Zht .u8 ((b.val:Nat):Int) 63=((b.val % 64:Nat):Int):=by decide +kernel
  exact this ⟨a,ha⟩
theorem Zym {a:Nat} (ha:a<64):orV .u8 128 (a:Int)=((128+a:Nat):Int):=by
  have:∀ b:Fin 64,orV .u8 128 ((b.val:Nat):Int)=((128+b.val:Nat):Int):=by decide +kernel
  exact this ⟨a,ha⟩
theorem Zyl {a:Nat} (ha:a<32):orV .u8 192 (a:Int)=((192+a:Nat):Int):=by
  have:∀ b:Fin 32,orV .u8 192 ((b.val:Nat):Int)=((192+b.val:Nat):Int):=by decide +kernel
  exact this ⟨a,ha⟩
theorem Zyk {a:Nat} (ha:a<16):orV .u8 224 (a:Int)=((224+a:Nat):Int):=by
  have:∀ b:Fin 16,orV .u8 224 ((b.val:Nat):Int)=((224+b.val:Nat):Int):=by decide +kernel
  exact this ⟨a,ha⟩
theorem Zyj {a:Nat} (ha:a<8):orV .u8 240 (a:Int)=((240+a:Nat):Int):=by
  have:∀ b:Fin 8,orV .u8 240 ((b.val:Nat):Int)=((240+b.val:Nat):Int):=by decide +kernel
  exact this ⟨a,ha⟩
theorem Zl1 {n:Nat} (h:n<256):Value.int .u8 (n:Int)=bv (UInt8.ofNat n):=by
  unfold bv;rw [Zct h]
theorem ZdU (n:Nat):Value.int .u8 (orV .u8 128 (Zht .u8 (IntKind.wrap .u8 (n:Int)) 63))=bv (UInt8.ofNat (128+n % 64)):=by
  rw [w8,ZyG (by omega),Zym (by omega),show n % 256 % 64=n % 64 by omega]
  exact Zl1 (by omega)
theorem ZdQ (c:UInt8):(48≤c.toNat∧c.toNat≤57∧ZfK c=some (c.toNat - 48))∨(¬ (48≤c.toNat∧c.toNat≤57)∧97≤c.toNat∧c.toNat≤102∧ZfK c=some (c.toNat - 87)) ∨
    (¬ (48≤c.toNat∧c.toNat≤57)∧¬ (97≤c.toNat∧c.toNat≤102)∧65≤c.toNat∧c.toNat≤70∧ZfK c=some (c.toNat - 55)) ∨
    (¬ (48≤c.toNat∧c.toNat≤57)∧¬ (97≤c.toNat∧c.toNat≤102)∧¬ (65≤c.toNat∧c.toNat≤70)∧ZfK c=none):=by
  unfold ZfK
  by_cases h1:48≤c.toNat∧c.toNat≤57
  ·rw [if_pos h1];exact .inl ⟨h1.1,h1.2,rfl⟩
  rw [if_neg h1]
  by_cases h2:97≤c.toNat∧c.toNat≤102
  ·rw [if_pos h2];exact .inr (.inl ⟨h1,h2.1,h2.2,rfl⟩)
  rw [if_neg h2]
  by_cases h3:65≤c.toNat∧c.toNat≤70
  ·rw [if_pos h3];exact .inr (.inr (.inl ⟨h1,h2,h3.1,h3.2,rfl⟩))
  ·rw [if_neg h3];exact .inr (.inr (.inr ⟨h1,h2,h3,rfl⟩))
theorem Zf9 (k n:Nat) (c:UInt8) (l:BL):Zcl (k+1) n (c::l)=match ZfK c with
    | some d=>Zcl k (n*16+d) l
    | none=> .err 22 (c::l):=rfl
theorem ZnC {h:Zc} {R:Nat} {s:ByteArray} {l:BL} (hr:Rd h R s l) {K:Int→HP} {P:Value→HP}
    (hok:∀ (n:Nat) r h',Zcl 4 0 l = .ok n r→Rd h' R s r→Upd (· = R) h h'→sz h'=sz h→K n h') (herr:OnE h R s (· = R) (Zcl 4 0 l) P):Zas (At R) K P h:=by
  unfold Zas ZcF
  refine Za (Za ?_)
  refine Zx (fun p h'=>∃ (N k:Nat) (l':BL),p.1=N∧p.2.1=((4 - k:Nat):Int)∧k≤4∧N<16 ^ (4 - k)∧Zcl k N l'=Zcl 4 0 l∧Rd h' R s l'∧Upd (· = R) h h'∧sz h'=sz h) (fun p _=>(4 - p.2.1).toNat) ⟨0,4,l,rfl,rfl,by omega,by decide,rfl,hr,Upd.refl _ _,rfl⟩ ?_
  rintro ⟨n1,s5,u⟩ h2 ⟨N,k,l2,e1,e2,hk,hN,q2,r2,u2,z2⟩
  dsimp only at e1 e2 ⊢
  subst e1 e2
  refine Zj (fun hlt=>?_) fun hge=>?_
  ·obtain ⟨k,rfl⟩:∃ k',k=k'+1:=⟨k - 1,by omega⟩
   have hN2:N<65536:=by
     have:16 ^ (4 - (k+1))≤16 ^ 4:=Nat.pow_le_pow_right (by decide) (by omega)
     omega
   refine Xm r2 (Za ?_)
   refine Zr (fun p h'=>h'=h2∧∃ c l3 d,l2=c::l3∧ZfK c=some d∧p.1=((N*16+d:Nat):Int)) ?_ ?_
   ·rintro ⟨n,u⟩ h3 ⟨rfl,c,l3,d,rfl,hd,hn⟩
    dsimp only at hn ⊢
    subst hn
    refine Zb7 r2 fun h4 r4 u4 z4=>?_
    rw [ZJ (by omega) (by omega)]
    refine ⟨⟨N*16+d,k,l3,rfl,by omega,by omega,?_,?_,r4,u2.trans u4,z4.trans z2⟩,by omega⟩
    ·have h16:=ZmJ hd
     rw [show 4 - k=(4 - (k+1))+1 by omega,Nat.pow_succ]
     omega
    ·rw [← q2,Zf9,hd]
   ·
    have bad:(∀ c l3,l2=c::l3→ZfK c=none)→∀ e' r,(XW 22 l2:Out Nat) = .err e' r→r=l2→P (Zdu e' (s.size - r.length)) h2:=fun hno e' r he hr'=>by
      refine herr e' r h2 ?_ u2
      rw [← q2,← he]
      rcases l2 with _ | ⟨c,l3⟩
      ·rfl
      ·rw [Zf9,hno c l3 rfl];rfl
    refine Zr (fun p h'=>h'=h2∧p.1=decide (48≤XM l2∧XM l2≤57)) ?_ ?_
    ·rintro ⟨b,u⟩ h3 ⟨rfl,hb⟩
     dsimp only at hb ⊢
     subst hb
     rcases l2 with _ | ⟨c,l3⟩
     ·refine Zn (by simp [XM]) ?_
      have hf:=bad fun c l3 e=>by cases e
      refine Zn (by simp [XM]) (Zn (by simp [XM]) (ZaL r2 rfl hf))
     ·have hz:XM (c::l3)=(c.toNat:Int):=rfl
      generalize XM (c::l3)=z at hz ⊢
      subst hz
      rcases ZdQ c with ⟨a1,a2,hd⟩ | ⟨a0,a1,a2,hd⟩ | ⟨a0,b0,a1,a2,hd⟩ | ⟨a0,b0,c0,hd⟩
      ·refine Zm (by simp;omega) ⟨by decide,Za ⟨rfl,c,l3,_,rfl,hd,Zij (c:=0) hN2 (by omega) ?_⟩⟩
       rw [Zk5 (by omega) (by omega)];omega
      ·refine Zn (by simp;omega) (Zm (by simp;omega) (Zd (Zm (by simp;omega) ⟨by decide,Za ⟨rfl,c,l3,_,rfl,hd,Zij (c:=0) hN2 (by omega) ?_⟩⟩)))
       rw [Zk5 (n:=(c.toNat:Int) - 97) (by omega) (by omega),Zk5 (by omega) (by omega)];omega
      ·refine Zn (by simp;omega) (Zn (by simp;omega) (Zm (by simp;omega) (Zd (Zm (by simp;omega) ⟨by decide,Za ⟨rfl,c,l3,_,rfl,hd,Zij (c:=0) hN2 (by omega) ?_⟩⟩))))
       rw [Zk5 (n:=(c.toNat:Int) - 65) (by omega) (by omega),Zk5 (by omega) (by omega)];omega
      ·have hf:=bad fun c' l3' e=>by cases e;exact hd
       refine Zn (by simp;omega) (Zj (fun h97=>Zd (Zn (by simp;omega) (Zm (by simp;omega) (Zd (Zn (by simp;omega) (ZaL r2 rfl hf)))))) fun h97=>Zj (fun h65=>Zd (Zn (by simp;omega) (ZaL r2 rfl hf))) fun h65=>ZaL r2 rfl hf)
    ·refine Zj (fun h48=>Zd ⟨rfl,?_⟩) fun h48=>⟨rfl,?_⟩
     ·simp;omega
     ·simp;omega
  ·obtain rfl:k=0:=by omega
   refine Za (hok N l2 h2 ?_ r2 u2 z2)
   rw [← q2];rfl
theorem Zez (n:Nat):(Zcc n).length≤4:=by
  unfold Zcc
  split
  ·exact Nat.le_of_ble_eq_true rfl
  split
  ·exact Nat.le_of_ble_eq_true rfl
  split
  ·exact Nat.le_of_ble_eq_true rfl
  ·exact Nat.le_of_ble_eq_true rfl
theorem ZiI {h:Zc} {base:Nat} {x:Sl} {l:BL} {n:Nat} (hb:Buf h base x l) (hbase:base≤sz h) (hn:n<1114112) (hsur:n<55296∨57344≤n) (hs:l.length+4≤1000000000) {K:Sl→HP}
    (hk:∀ x' h',Buf h' base x' (l++Zcc n)→Upd (fun k=>base≤k) h h'→sz h≤sz h'→K x' h'):YK x n K h:=by
  unfold YK Zai
  have go:∀ (new:BL) (cells:List Value) (m:Nat) (K':Sl→HP),Zcc n=new→cells=new.map bv→m=new.length→(∀ x' h',K' x' h'↔K x' h') →
      newC h cells 5 fun b h1=>rdS ⟨some ⟨b,0,none⟩,m,m⟩ 1 h1 fun nw=>Fw.app 5 1 1 [.int .u8 0] x m nw h1 K':=by
    intro new cells m K' hu hc hm hK
    have h4:(Zcc n).length≤4:=Zez n
    rw [hu] at h4
    refine Zs6 new m hc hm.symm (by omega) fun b h1 hr e1 _=>hr.rd ?_
    have hx:=hb.congr (h':=h1) fun k hk hl=>ZQ e1 hl
    have hsz:=e1.size
    refine hx.app (by have:sz h1=h1.size:=rfl;have:sz h=h.size:=rfl;omega) hm rfl (by omega) fun x' h6 hx6 u6 z6=>(hK _ _).2 (hk x' h6 (by rw [hu];exact hx6) ((e1.upd _).trans u6) (by have:sz h1=h1.size:=rfl;have:sz h=h.size:=rfl;omega))
  have w:IntKind.wrap .u32 (n:Int)=n:=Zty (by omega) (by omega)
  rw [w]
  refine Zj (fun h1=>?_) fun h1=>?_
  ·refine go [UInt8.ofNat n] _ 1 _ (by unfold Zcc;rw [if_pos (by omega)]) ?_ rfl fun _ _=>Iff.rfl
   rw [w8,show n % 256=n by omega,Zl1 (by omega)];rfl
  ·unfold Yr Y1
   rw [w]
   refine Za (Zd (Zj (fun h2=>⟨by decide,?_⟩) fun h2=>?_))
   ·refine go [UInt8.ofNat (192+n / 64),UInt8.ofNat (128+n % 64)] _ 2 _ (by unfold Zcc;rw [if_neg (by omega),if_pos (by omega)]) ?_ rfl fun _ _=>Iff.rfl
    rw [ZdU,show ((6:Int))=((6:Nat):Int) from rfl,Zoi (by omega),w8,show n / 2 ^ 6 % 256=n / 64 by omega,Zyl (by omega),Zl1 (by omega)];rfl
   ·refine Zr (fun p h'=>h'=h∧p.1=decide (n≤65535)) ?_ ?_
    ·rintro ⟨b,u⟩ h3 ⟨rfl,hb3⟩
     dsimp only at hb3 ⊢
     subst hb3
     refine Zj (fun h4=>⟨by decide,by decide,?_⟩) fun h4=>Zm (by simp;omega) (Zd (Zm (by simp;omega) ⟨by decide,by decide,by decide,?_⟩))
     ·refine go [UInt8.ofNat (224+n / 4096),UInt8.ofNat (128+n / 64 % 64),UInt8.ofNat (128+n % 64)] _ 3 _ (by unfold Zcc;rw [if_neg (by omega),if_neg (by omega),if_pos (by omega)]) ?_ rfl fun _ _=>Iff.rfl
      rw [ZdU,show ((6:Int))=((6:Nat):Int) from rfl,show ((12:Int))=((12:Nat):Int) from rfl,Zoi (k:=12) (by omega),Zoi (k:=6) (by omega),ZdU,w8,show n / 2 ^ 12 % 256=n / 4096 by omega,show n / 2 ^ 6=n / 64 by rfl,Zyk (by omega),Zl1 (by omega)];rfl
     ·refine go [UInt8.ofNat (240+n / 262144),UInt8.ofNat (128+n / 4096 % 64),UInt8.ofNat (128+n / 64 % 64),UInt8.ofNat (128+n % 64)] _ 4 _ (by unfold Zcc;rw [if_neg (by omega),if_neg (by omega),if_neg (by omega)]) ?_ rfl fun _ _=>Iff.rfl
      rw [ZdU,show ((6:Int))=((6:Nat):Int) from rfl,show ((12:Int))=((12:Nat):Int) from rfl,show ((18:Int))=((18:Nat):Int) from rfl,Zoi (k:=18) (by omega),Zoi (k:=12) (by omega),Zoi (k:=6) (by omega),ZdU,ZdU,w8,show n / 2 ^ 18 % 256=n / 262144 by omega,show n / 2 ^ 6=n / 64 by rfl,show n / 2 ^ 12=n / 4096 by rfl,Zyj (by omega),Zl1 (by omega)];rfl
    ·refine Zd (Zj (fun h5=>⟨rfl,?_⟩) fun h5=>Zm (by simp;omega) (Zd ⟨rfl,?_⟩))
     ·simp;omega
     ·simp;omega
theorem Zfq {h:Zc} {B:Nat} {T:TypeId} {out:BL} (hb:Bld h B T out) {n:Nat} (hn:n<1114112) (hsur:n<55296∨57344≤n) {n0:Int} (hn0:n0=n) (hs:out.length<900000000) {K:Int→Value→HP} (hk:∀ i h',Bld h' B T (out++Zcc n)→Upd (fun k=>B≤k) h h'→K i .nilIface h'):YA (At B) n0 K h:=by
  subst hn0
  unfold YA XR
  refine Za (ZiG hb fun h1 x b1 u1 c1 hx z1=>Z7 (rL (Zi c1 rfl) (Za (Z7 (rL (Zi c1 rfl) ?_)))))
  refine ZiI hx (by have:=b1.lt;omega) hn hsur (by omega) fun x' h6 hx6 u6 z6=>?_
  exact ZmU b1.1 c1 u6 hx6 fun h9 b9 u9 c9=>Z7 (rL (Zi c9 rfl) (Za (hk _ h9 b9 (u1.trans u9))))
end Go.Proofs.YtpjbjdheeemdiaaGreatDoor
