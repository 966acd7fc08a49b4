/- The reader's words, one by one, keep what JsX asks. No program. -/
import Derived.Test.YtpjbjdheeemdiaaGreatDoorPa9
set_option linter.unusedVariables false
set_option linter.unusedSimpArgs false
namespace Go.Js
open Go
structure Hf {α:Type} (s:Bool) (p:BL→Out α):Prop where
  sf:Sf p
  pe:∀ n,Pe n p
  pb:∀ n,Pb n s p
structure Good {α:Type} (s:Bool) (p:BL→Out α):Prop extends Hf s p where
  bn:Bn s p
section
variable {α β:Type}
theorem Pe.mono {m n:Nat} {p:BL→Out α} (h:Pe n p) (hm:m≤n):Pe m p :=
  ⟨fun hx=>h.ext (by omega),fun hx=>h.eext (by omega),fun hx=>h.cutO (by omega),fun hx=>h.cutE (by omega)⟩
theorem Pb.mono {m n:Nat} {s:Bool} {p:BL→Out α} (h:Pb n s p) (hm:m≤n):Pb m s p :=
  ⟨fun hx=>h.bl (by omega),fun hx=>h.blo (by omega)⟩
theorem Good.tl {s:Bool} {g:BL→Out α} (h:Good s g):Hf s (tlP g) :=
  ⟨ZsY h.sf,fun n=>(ZhS h.sf (h.pe n)).mono (Nat.le_succ n),fun n=>(ZhT (h.pb n) h.bn).mono (Nat.le_succ n)⟩
theorem Good.okP (s:Bool) (a:α):Good s (Js.okP a):=⟨⟨Zn9 a,fun _=>Zoa a,fun _=>Zob s a⟩,Zoc s a⟩
theorem Hf.fail {s:Bool} {e:Nat} (he:e≠24):Hf s (Xt e:BL→Out α):=⟨Zqb he,fun _=>Zjh,fun _=>Zji he⟩
theorem Hf.ite {s:Bool} {c:Prop} [Decidable c] {p q:BL→Out α} (hp:Hf s p) (hq:Hf s q):Hf s (if c then p else q):=by split<;>assumption
theorem St.ite {k:Nat} {c:Prop} [Decidable c] {p q:BL→Out α} (hp:St k p) (hq:St k q):St k (if c then p else q):=by split<;>assumption
theorem St.mono {k m:Nat} {p:BL→Out α} (h:St k p) (hm:m≤k):St m p:=⟨fun e=>by have:=h.len e;omega⟩
theorem Zpz {p:BL→Out α} (h:St 1 p) {l r:BL} {a:α} (e:p l = .ok a r) (hl:l.length≤r.length) {P:Prop}:P:=by have:=h.len e;omega
theorem Hf.hd {s:Bool} {f:UInt8→BL→Out α} (hf:∀ c,Hf s (f c)) (hs:∀ c,St 1 (f c)):Hf s (hdP (.err 24 []) f) :=
  ⟨ZqU (.inr rfl) fun c=>(hf c).sf,fun n=>ZlQ (.inl rfl) (fun c r b h=>Zpz (hs c) h (Nat.le_refl _)) fun c=>(hf c).pe n,fun n=>ZlR fun c=>(hf c).pb n⟩
theorem Hf.hdO {s:Bool} {a0:α} {f:UInt8→BL→Out α} (hf:∀ c,Hf s (f c)) (hs:∀ c,St 1 (f c)∨f c=Js.okP a0):Hf s (hdP (.ok a0 []) f):=by
  refine ⟨ZqU (.inl ⟨a0,rfl⟩) fun c=>(hf c).sf,fun n=>ZlQ (.inr ⟨a0,rfl,fun c r b h=>?_⟩) (fun c r b h h2=>by cases h2) fun c=>(hf c).pe n,fun n=>ZlR fun c=>(hf c).pb n⟩
  rcases hs c with h1 | h1
  ·exact Zpz h1 h (Nat.le_refl _)
  ·rw [h1] at h;cases h;rfl
theorem Good.hd {s:Bool} {f:UInt8→BL→Out α} (hf:∀ c,Hf s (f c)) (hs:∀ c,St 1 (f c)) (hb:∀ c,Yd c=true→∃ e,f c=Xt e):Good s (hdP (.err 24 []) f):=⟨Hf.hd hf hs,Ztv hb⟩
theorem Good.hdO {s:Bool} {a0:α} {f:UInt8→BL→Out α} (hf:∀ c,Hf s (f c)) (hs:∀ c,St 1 (f c)∨f c=Js.okP a0) (hb:∀ c,Yd c=true→f c=Js.okP a0):Good s (hdP (.ok a0 []) f):=⟨Hf.hdO hf hs,ZrA hb⟩
theorem Hf.bind {s s':Bool} {p:BL→Out α} {f:α→BL→Out β} (hp:Hf s p) (hf:∀ a,Good s' (f a)):Hf (s&&s') fun l=>(p l).bind f :=
  ⟨hp.sf.bind fun a=>(hf a).sf,fun n=>Pe.bind (m:=n) (k:=0) (hp.pe n) hp.sf hp.sf.st (fun a=>(hf a).pe n) fun a=>(hf a).sf,
   fun n=>Pb.bind (m:=n) (k:=0) (hp.pe n) (hp.pb n) hp.sf hp.sf.st (fun a=>(hf a).pb n) fun a=>(hf a).bn⟩
theorem Good.bind {s s':Bool} {p:BL→Out α} {f:α→BL→Out β} (hp:Good s p) (hf:∀ a,Good s' (f a)):Good (s&&s') fun l=>(p l).bind f :=
  ⟨hp.toHf.bind hf,hp.bn.bind hp.sf fun a=>(hf a).bn⟩
theorem Good.got {p:BL→Out α} (h:Good true p):Good true (Zcm p):=⟨⟨Zk6 h.sf,fun n=>Zk7 (h.pe n),fun n=>ZoA (h.pb n)⟩,ZrD h.bn⟩
end
theorem Zch:Good false (Zba Yd):=⟨⟨Zjn _,fun _=>Zl3 _,fun _=>Zqj _⟩,Zqk _⟩
theorem Zql:Good true (Zba YX):=⟨⟨Zjn _,fun _=>Zl3 _,fun _=>ZoM⟩,ZoN⟩
theorem ZfA:Ya=hdP (.err 24 []) fun c=>if YX c then tlP (Zba YX) else Xt 21:=by
  funext l
  rcases l with _ | ⟨c,l⟩
  ·rfl
  ·dsimp only [Ya,hdP]
   split<;>rfl
theorem Zg9:St 1 Ya:=by
  rw [ZfA]
  exact ZgW (fun a r h=>by cases h) fun c=>St.ite (X5 (Ze7 _)) XM
theorem Zdg:Good true Ya:=by
  rw [ZfA]
  refine Good.hd (fun c=>Hf.ite Zql.tl (Hf.fail (by decide))) (fun c=>St.ite (X5 (Ze7 _)) XM) fun c hc=>⟨21,?_⟩
  rcases Zcq hc with rfl | rfl | rfl | rfl<;>rfl
def Ztg:BL→Out Unit:=fun l=> .ok () (XK l)
theorem Zrt:Ztg=hdP (.ok () []) fun c=>if c=45 then tlP (okP ()) else okP ():=by
  funext l
  rcases l with _ | ⟨c,l⟩
  ·rfl
  ·dsimp only [Ztg,XK,hdP]
   split<;>rfl
theorem ZlJ:Good true Ztg:=by
  rw [Zrt]
  refine Good.hdO (fun c=>Hf.ite (Good.okP _ _).tl (Good.okP _ _).toHf) (fun c=>?_) fun c hc=>?_
  ·by_cases h:c=45
   ·left;rw [if_pos h];exact X5 (Zdo _)
   ·right;rw [if_neg h]
  ·rcases Zcq hc with rfl | rfl | rfl | rfl<;>rfl
def Zs3:BL→Out Unit:=fun l=> .ok () (Zeg l)
theorem Zrg:Zs3=hdP (.ok () []) fun c=>if c=43∨c=45 then tlP (okP ()) else okP ():=by
  funext l
  rcases l with _ | ⟨c,l⟩
  ·rfl
  ·dsimp only [Zs3,Zeg,hdP]
   split<;>rfl
theorem Zly:Good true Zs3:=by
  rw [Zrg]
  refine Good.hdO (fun c=>Hf.ite (Good.okP _ _).tl (Good.okP _ _).toHf) (fun c=>?_) fun c hc=>?_
  ·by_cases h:c=43∨c=45
   ·left;rw [if_pos h];exact X5 (Zdo _)
   ·right;rw [if_neg h]
  ·rcases Zcq hc with rfl | rfl | rfl | rfl<;>rfl
theorem Zib:Zag=hdP (.ok () []) fun c=>if YX c then Xt 21 else okP ():=by
  funext l
  rcases l with _ | ⟨c,l⟩
  ·rfl
  ·dsimp only [Zag,hdP]
   split<;>rfl
theorem ZeA:Good true Zag:=by
  rw [Zib]
  refine Good.hdO (fun c=>Hf.ite (Hf.fail (by decide)) (Good.okP _ _).toHf) (fun c=>?_) fun c hc=>?_
  ·by_cases h:YX c=true
   ·left;rw [if_pos h];exact XM
   ·right;rw [if_neg h]
  ·rcases Zcq hc with rfl | rfl | rfl | rfl<;>rfl
theorem Zk2:ZeE=hdP (.err 24 []) fun c=>if c=48 then tlP Zag else Ya:=by
  funext l
  rcases l with _ | ⟨c,l⟩
  ·rfl
  ·dsimp only [ZeE,hdP]
   split<;>rfl
theorem Ztt:St 1 ZeE:=by
  rw [Zk2]
  exact ZgW (fun a r h=>by cases h) fun c=>St.ite (X5 ZeA.sf.st) Zg9
theorem Ztu:Hf true ZeE:=by
  rw [Zk2]
  exact Hf.hd (fun c=>Hf.ite ZeA.tl Zdg.toHf) fun c=>St.ite (X5 ZeA.sf.st) Zg9
theorem Zp1:Good true ZeE:=by
  refine ⟨Ztu,fun {b} _ hb=>?_,fun {b a} h=>by cases h⟩
  rcases b with _ | ⟨c,b⟩
  ·exact ⟨24,[],rfl,List.suffix_refl _⟩
  ·refine ⟨21,c::b,?_,List.suffix_refl _⟩
   rcases Zcq (hb c (by simp)) with rfl | rfl | rfl | rfl<;>rfl
theorem ZlV:ZcV=hdP (.ok () []) fun c=>if c=46 then tlP Ya else okP ():=by
  funext l
  rcases l with _ | ⟨c,l⟩
  ·rfl
  ·dsimp only [ZcV,hdP]
   split<;>rfl
theorem Zka:Good true ZcV:=by
  rw [ZlV]
  refine Good.hdO (fun c=>Hf.ite Zdg.tl (Good.okP _ _).toHf) (fun c=>?_) fun c hc=>?_
  ·by_cases h:c=46
   ·left;rw [if_pos h];exact St.mono (X5 Zg9) (by omega)
   ·right;rw [if_neg h]
  ·rcases Zcq hc with rfl | rfl | rfl | rfl<;>rfl
theorem ZoI:Zfd=hdP (.ok () []) fun c=>if c=101∨c=69 then tlP (fun l=>(Zs3 l).bind fun _=>Ya) else okP ():=by
  funext l
  rcases l with _ | ⟨c,l⟩
  ·rfl
  ·dsimp only [Zfd,hdP]
   split<;>rfl
theorem ZlZ:Good true Zfd:=by
  rw [ZoI]
  refine Good.hdO (fun c=>Hf.ite (Zly.bind fun _=>Zdg).tl (Good.okP _ _).toHf) (fun c=>?_) fun c hc=>?_
  ·by_cases h:c=101∨c=69
   ·left;rw [if_pos h];exact X5 (k:=0) (Zly.bind fun _=>Zdg).sf.st
   ·right;rw [if_neg h]
  ·rcases Zcq hc with rfl | rfl | rfl | rfl<;>rfl
theorem ZkV:ZcQ=fun l=>(Ztg l).bind fun _ l=>(ZeE l).bind fun _ l=>(ZcV l).bind fun _=>Zfd:=rfl
theorem Zd8:Good true ZcQ:=by
  rw [ZkV]
  exact ZlJ.bind fun _=>Zp1.bind fun _=>Zka.bind fun _=>ZlZ
theorem ZqK:St 1 ZcQ:=by
  rw [ZkV]
  exact St.mono (St.bind (k:=0) (m:=1) ZlJ.sf.st fun _=>St.bind (k:=1) (m:=0) Ztt fun _=>(Zka.bind fun _=>ZlZ).sf.st) (by omega)
theorem Zlq (c:UInt8) (w:BL):Xi (c::w)=hdP (.err 24 []) fun d=>if d=c then tlP (Xi w) else Xt 20:=by
  funext l
  rcases l with _ | ⟨d,l⟩
  ·rfl
  ·dsimp only [Xi,hdP]
   split<;>rfl
theorem Zcd:∀ (w:BL),(∀ c∈w,Yd c=false)→Good true (Xi w)∧St w.length (Xi w)
  | [],_=>⟨Good.okP true (),Zdo ()⟩
  | c::w,h=>by
    obtain ⟨a,b⟩:=Zcd w fun d hd=>h d (by simp [hd])
    rw [Zlq]
    refine ⟨Good.hd (fun d=>Hf.ite a.tl (Hf.fail (by decide))) (fun d=>St.ite (St.mono (X5 b) (by omega)) XM) fun d hd=>⟨20,?_⟩,ZgW (fun a r h=>by cases h) fun d=>St.ite (X5 b) XM⟩
    rw [if_neg]
    intro e
    rw [e,h c (by simp)] at hd
    cases hd
theorem Zoy (k n:Nat):Zbk (k+1) n=hdP (.err 24 []) fun c=>match ZeF c with
    | some d=>tlP (Zbk k (n*16+d))
    | none=>Xt 22:=by
  funext l
  rcases l with _ | ⟨c,l⟩
  ·rfl
  ·dsimp only [Zbk,hdP]
   cases ZeF c<;>rfl
theorem Zf6:∀ (k n:Nat),Good true (Zbk k n)∧St k (Zbk k n)
  | 0,n=>⟨Good.okP true n,Zdo n⟩
  | k+1,n=>by
    rw [Zoy]
    have ih:=fun m=>Zf6 k m
    refine ⟨Good.hd (fun c=>?_) (fun c=>?_) fun c hc=>⟨22,?_⟩,ZgW (fun a r h=>by cases h) fun c=>?_⟩
    ·cases ZeF c with
     | some d=>exact (ih _).1.tl
     | none=>exact Hf.fail (by decide)
    ·cases ZeF c with
     | some d=>exact St.mono (X5 (ih _).2) (by omega)
     | none=>exact XM
    ·rcases Zcq hc with rfl | rfl | rfl | rfl<;>rfl
    ·cases ZeF c with
     | some d=>exact X5 (ih _).2
     | none=>exact XM
theorem ZnE:ZhR=hdP (.err 24 []) fun c=>match Zav c with
    | some m=>tlP (okP (.ch m))
    | none=>if c=117 then tlP (fun l=>(Zbk 4 0 l).bind fun n=>okP (.uni n)) else Xt 22:=by
  funext l
  rcases l with _ | ⟨c,l⟩
  ·rfl
  ·dsimp only [ZhR,hdP]
   cases Zav c with
   | some m=>rfl
   | none=>dsimp only;split<;>rfl
theorem Zap:Good true ZhR:=by
  rw [ZnE]
  refine Good.hd (fun c=>?_) (fun c=>?_) fun c hc=>⟨22,?_⟩
  ·cases Zav c with
   | some m=>exact (Good.okP _ _).tl
   | none=>exact Hf.ite ((Zf6 4 0).1.bind fun _=>Good.okP true _).tl (Hf.fail (by decide))
  ·cases Zav c with
   | some m=>exact X5 (Zdo _)
   | none=>exact St.ite ((X5 (k:=0) ((Zf6 4 0).1.bind (s':=true) fun _=>Good.okP true _).sf.st)) XM
  ·rcases Zcq hc with rfl | rfl | rfl | rfl<;>rfl
theorem Zl5 (n lo hi:Nat):Zbv (n+1) lo hi=hdP (.err 24 []) fun d=>if lo≤d.toNat∧d.toNat≤hi then tlP (Zbv n 128 191) else Xt 22:=by
  funext l
  rcases l with _ | ⟨c,l⟩
  ·rfl
  ·dsimp only [Zbv,hdP]
   split<;>rfl
theorem Zhc:∀ (n lo hi:Nat),128≤lo→Good true (Zbv n lo hi)
  | 0,_,_,_=>Good.okP true ()
  | n+1,lo,hi,h=>by
    rw [Zl5]
    refine Good.hd (fun c=>Hf.ite (Zhc n 128 191 (Nat.le_refl _)).tl (Hf.fail (by decide))) (fun c=>St.ite (X5 (k:=0) (Zhc n 128 191 (Nat.le_refl _)).sf.st) XM) fun c hc=>⟨22,?_⟩
    rw [if_neg]
    rcases Zcq hc with rfl | rfl | rfl | rfl<;>(intro hh;have:=hh.1;simp at this;omega)
theorem Zlz:XE=hdP (.err 24 []) fun c=>if nRb c=0 then Xt 22 else tlP (Zbv (nRb c - 1) (loR c) (hiR c)):=by
  funext l
  rcases l with _ | ⟨c,l⟩
  ·rfl
  ·dsimp only [XE,hdP]
   split<;>rfl
theorem Zrx:∀ b:Fin 256,2≤nRb ⟨⟨b⟩⟩→128≤loR ⟨⟨b⟩⟩:=by decide +kernel
theorem Zom:∀ c:UInt8,2≤nRb c→128≤loR c:=fun ⟨⟨b⟩⟩=>Zrx b
theorem ZcG:Hf true XE∧St 1 XE:=by
  rw [Zlz]
  have key:∀ c,Good true (Zbv (nRb c - 1) (loR c) (hiR c)):=fun c=>by
    by_cases h:2≤nRb c
    ·exact Zhc _ _ _ (Zom c h)
    ·rw [show nRb c - 1=0 by omega];exact Good.okP true ()
  have st:∀ c,St 1 (if nRb c=0 then Xt 22 else tlP (Zbv (nRb c - 1) (loR c) (hiR c))):=fun c=>St.ite XM (X5 (k:=0) (key c).sf.st)
  exact ⟨Hf.hd (fun c=>Hf.ite (Hf.fail (by decide)) (key c).tl) st,ZgW (fun a r h=>by cases h) st⟩
def T (p:Option Nat) (out:BL):BL→Out BL:=fun l=>ZaQ (l.length+1) p out l
def tF (p:Option Nat) (out:BL) (c:UInt8):BL→Out BL :=
  if c.toNat<32 then Xt 22
  else if c=34 then tlP (okP (out++flB p))
  else if c=92 then tlP fun l=>(ZhR l).bind fun t=>T (ZfP p out t).1 (ZfP p out t).2
  else if c.toNat<128 then tlP (T none (out++flB p++[c]))
  else fun l=>(Zcm XE l).bind fun o=>T none (out++flB p++o)
theorem Zmc {n:Nat} {p:Option Nat} {out l:BL} (h:l.length<n):ZaQ n p out l=T p out l:=Zb9 _ _ _ _ _ h (Nat.lt_succ_self _)
theorem Zsa (p:Option Nat) (out:BL):T p out=hdP (.err 24 []) (tF p out):=by
  funext l
  rcases l with _ | ⟨c,l⟩
  ·rfl
  ·show ZaQ ((c::l).length+1) p out (c::l)=tF p out c (c::l)
   unfold ZaQ tF
   split
   ·rfl
   split
   ·rfl
   split
   ·show _=(ZhR l).bind _
    cases h:ZhR l with
    | err e r=>rfl
    | ok t r=>exact Zmc (by have:=(ZeO h).1;simp;omega)
   split
   ·exact Zmc (by simp)
   ·show _=(Zcm XE (c::l)).bind _
    unfold Zcm
    cases h:XE (c::l) with
    | err e r=>rfl
    | ok t r=>exact Zmc (by have:=(ZaI h).1;simp at this ⊢;omega)
theorem Zf2:∀ (n:Nat) (p:Option Nat) (out l:BL),l.length<n→(∀ a r,ZaQ n p out l = .ok a r→r <:+l∧r.length<l.length)∧∀ e r,ZaQ n p out l = .err e r→r <:+l∧(e=24↔r=[])
  | 0,_,_,_,h=>by omega
  | n+1,p,out,[],_=>⟨fun a r h=>(by cases h),fun e r h=>by cases h;simp⟩
  | n+1,p,out,c::l,h=>by
    simp only [List.length_cons] at h
    have up:∀ {r q:BL},r.length<(c::l).length→r <:+c::l→∀ {p':Option Nat} {out':BL},(∀ a q,ZaQ n p' out' r = .ok a q→q <:+c::l∧q.length<(c::l).length)∧∀ e q,ZaQ n p' out' r = .err e q→q <:+c::l∧(e=24↔q=[]):=fun {r q} hr hs {p' out'}=>by
      obtain ⟨a,b⟩:=Zf2 n p' out' r (by simp at hr;omega)
      exact ⟨fun x q hq=>⟨(a x q hq).1.trans hs,Nat.lt_trans (a x q hq).2 hr⟩,fun e q hq=>⟨(b e q hq).1.trans hs,(b e q hq).2⟩⟩
    unfold ZaQ
    split
    ·exact ⟨fun a r h=>(by cases h),fun e r h=>by cases h;simp⟩
    split
    ·exact ⟨fun a r h=>by cases h;exact ⟨List.suffix_cons _ _,by simp⟩,fun e r h=>by cases h⟩
    split
    ·cases ht:ZhR l with
     | err e r=>exact ⟨fun a q h=>(by cases h),fun e q h=>by cases h;exact ⟨Xa (Zap.sf.esuf ht).1,(Zap.sf.esuf ht).2⟩⟩
     | ok t r=>exact up (q:=[]) (by have:=(ZeO ht).1;simp;omega) (Xa (ZeO ht).2)
    split
    ·exact up (q:=[]) (by simp) (List.suffix_cons _ _)
    ·cases ht:XE (c::l) with
     | err e r=>exact ⟨fun a q h=>(by cases h),fun e q h=>by cases h;exact ZcG.1.sf.esuf ht⟩
     | ok t r=>exact up (q:=[]) (ZaI ht).1 (ZaI ht).2
theorem ZtG (p:Option Nat) (out:BL):Sf (T p out):=⟨fun h=>((Zf2 _ p out _ (Nat.lt_succ_self _)).1 _ _ h).1,fun h=>(Zf2 _ p out _ (Nat.lt_succ_self _)).2 _ _ h⟩
theorem ZtY (p:Option Nat) (out:BL):St 1 (T p out):=⟨fun h=>((Zf2 _ p out _ (Nat.lt_succ_self _)).1 _ _ h).2⟩
theorem ZuT (p:Option Nat) (out:BL) (c:UInt8):St 1 (tF p out c):=by
  unfold tF
  refine St.ite XM (St.ite (X5 (Zdo _)) (St.ite (X5 (k:=0) ?_) (St.ite (St.mono (X5 (ZtY _ _)) (by omega)) ?_)))
  ·exact St.mono (m:=0) (St.bind (k:=0) (m:=1) Zap.sf.st fun t=>ZtY _ _) (by omega)
  ·exact St.mono (m:=1) (St.bind (k:=1) (m:=1) (Zjd ZcG.2) fun t=>ZtY _ _) (by omega)
theorem Zo8:∀ (b:BL) (p:Option Nat) (out:BL),Blk b→∃ e r,T p out b = .err e r∧r <:+b
  | [],p,out,_=>⟨24,[],rfl,List.suffix_refl _⟩
  | c::b,p,out,h=>by
    rw [Zsa]
    show ∃ e r,tF p out c (c::b)=_∧_
    rcases Zcq (h c (by simp)) with rfl | rfl | rfl | rfl
    ·obtain ⟨e,r,h1,h2⟩:=Zo8 b none (out++flB p++[32]) h.tail
     exact ⟨e,r,h1,Xa h2⟩
    ·exact ⟨22,_,rfl,List.suffix_refl _⟩
    ·exact ⟨22,_,rfl,List.suffix_refl _⟩
    ·exact ⟨22,_,rfl,List.suffix_refl _⟩
theorem ZtH (p:Option Nat) (out:BL):Bn true (T p out):=⟨fun _ hb=>Zo8 _ p out hb,fun h=>by cases h⟩
theorem ZtZ:∀ (n:Nat) (p:Option Nat) (out:BL),Pe n (T p out)
  | 0,_,_=>⟨fun h=>by omega,fun h=>by omega,fun h=>by omega,fun h=>by omega⟩
  | n+1,p,out=>by
    rw [Zsa]
    refine ZlQ (.inl rfl) (fun c r b h=>Zpz (ZuT p out c) h (Nat.le_refl _)) fun c=>?_
    unfold tF
    split
    ·exact Zjh
    split
    ·exact ZhS (Zn9 _) (Zoa _)
    split
    ·exact ZhS (Zap.sf.bind fun t=>ZtG _ _) (Pe.bind (m:=n) (k:=0) (Zap.pe n) Zap.sf Zap.sf.st (fun t=>ZtZ n _ _) fun t=>ZtG _ _)
    split
    ·exact ZhS (ZtG _ _) (ZtZ n _ _)
    ·exact Pe.bind (m:=n) (k:=1) (Zk7 (ZcG.1.pe _)) (Zk6 ZcG.1.sf) (Zjd ZcG.2) (fun t=>ZtZ n _ _) fun t=>ZtG _ _
theorem Zt0:∀ (n:Nat) (p:Option Nat) (out:BL),Pb n true (T p out)
  | 0,_,_=>⟨fun h=>by omega,fun h=>by omega⟩
  | n+1,p,out=>by
    rw [Zsa]
    refine ZlR fun c=>?_
    unfold tF
    split
    ·exact Zji (by decide)
    split
    ·exact ZhT (Zob _ _) (Zoc _ _)
    split
    ·exact ZhT (Pb.bind (m:=n) (k:=0) (s:=true) (s':=true) (Zap.pe n) (Zap.pb n) Zap.sf Zap.sf.st (fun t=>Zt0 n _ _) fun t=>ZtH _ _) (Zap.bn.bind (s':=true) Zap.sf fun t=>ZtH _ _)
    split
    ·exact ZhT (Zt0 n _ _) (ZtH _ _)
    ·exact Pb.bind (m:=n) (k:=1) (s:=true) (s':=true) (Zk7 (ZcG.1.pe _)) (ZoA (ZcG.1.pb _)) (Zk6 ZcG.1.sf) (Zjd ZcG.2) (fun t=>Zt0 n _ _) fun t=>ZtH _ _
theorem Zq0 (p:Option Nat) (out:BL):Good true (T p out):=⟨⟨ZtG p out,fun n=>ZtZ n p out,fun n=>Zt0 n p out⟩,ZtH p out⟩
theorem Zdy:ZfJ=T none []:=by
  funext l
  exact (Zgq _ l (Nat.lt_succ_self _)).1 []
def nmP:BL→Out BL:=fun l=>(Zba Yd l).bind fun _=>hdP (.err 24 []) fun c=>if c=34 then tlP fun l=>(ZfJ l).bind fun nm l=>(Zba Yd l).bind fun _=>hdP (.err 24 []) fun d=>if d=58 then tlP (okP nm) else Xt 20 else Xt 20
theorem ZlI:Zat=nmP:=by
  funext l
  show Zat l=hdP _ _ (ZF l)
  unfold Zat
  cases ZF l with
  | nil=>rfl
  | cons c l1 =>
    show _=(if c=34 then _ else _:BL→Out BL) (c::l1)
    dsimp only
    split
    ·show _=(ZfJ l1).bind _
     congr 1
     funext nm l2
     show _=hdP _ _ (ZF l2)
     cases ZF l2 with
     | nil=>rfl
     | cons d l3 =>
       show _=(if d=58 then _ else _:BL→Out BL) (d::l3)
       dsimp only
       split<;>rfl
    ·rfl
theorem Zf8 {c d:UInt8} (hc:Yd c=true) (hd:Yd d=false):c≠d:=fun e=>by rw [e,hd] at hc;cases hc
theorem Ze1:Good false Zat∧St 1 Zat:=by
  rw [ZlI]
  have g3:∀ nm:BL,Good false (hdP (.err 24 []) fun d=>if d=58 then tlP (okP nm) else Xt 20):=fun nm=>by
    refine Good.hd (fun c=>Hf.ite (Good.okP _ _).tl (Hf.fail (by decide))) (fun c=>St.ite (X5 (Zdo _)) XM) fun c hc=>⟨20,?_⟩
    rw [if_neg (Zf8 hc (by decide))]
  have g2:∀ nm:BL,Good false fun l=>(Zba Yd l).bind fun _=>hdP (.err 24 []) fun d=>if d=58 then tlP (okP nm) else Xt 20:=fun nm=>Zch.bind fun _=>g3 nm
  have g1:Good false fun l=>(ZfJ l).bind fun nm l=>(Zba Yd l).bind fun _=>hdP (.err 24 []) fun d=>if d=58 then tlP (okP nm) else Xt 20:=by
    rw [Zdy]
    exact (Zq0 none []).bind fun nm=>g2 nm
  have g0:Good false (hdP (.err 24 []) fun c=>if c=34 then tlP fun l=>(ZfJ l).bind fun nm l=>(Zba Yd l).bind fun _=>hdP (.err 24 []) fun d=>if d=58 then tlP (okP nm) else Xt 20 else Xt 20)∧St 1 (hdP (.err 24 []) fun c=>if c=34 then tlP fun l=>(ZfJ l).bind fun nm l=>(Zba Yd l).bind fun _=>hdP (.err 24 []) fun d=>if d=58 then tlP (okP nm) else Xt 20 else Xt 20):=by
    have st:∀ c:UInt8,St 1 (if c=34 then tlP fun l=>(ZfJ l).bind fun nm l=>(Zba Yd l).bind fun _=>hdP (.err 24 []) fun d=>if d=58 then tlP (okP nm) else Xt 20 else Xt 20):=fun c=>St.ite (X5 (k:=0) g1.sf.st) XM
    refine ⟨Good.hd (fun c=>Hf.ite g1.tl (Hf.fail (by decide))) st fun c hc=>⟨20,?_⟩,ZgW (fun a r h=>by cases h) st⟩
    rw [if_neg (Zf8 hc (by decide))]
  exact ⟨Zch.bind fun _=>g0.1,St.mono (St.bind (k:=0) (m:=1) (Ze7 _) fun _=>g0.2) (by omega)⟩
section
variable {pv:BL→Out JV}
theorem ZlE (ob:Bool) (ns:List BL) (sub:JL):XU pv ob ns sub=if ob=true then fun l=>(Zat l).bind fun nm l=>(pv l).bind fun v l=>(Zba Yd l).bind fun _=>okP (ns++[nm],sub.snoc v)
    else fun l=>(Zba Yd l).bind fun _ l=>(pv l).bind fun v l=>(Zba Yd l).bind fun _=>okP (ns,sub.snoc v):=by
  funext l
  unfold XU
  split<;>rfl
theorem Zbe (hv:Good false pv) (hs:St 1 pv) (ob:Bool) (ns:List BL) (sub:JL):Good false (XU pv ob ns sub)∧St 1 (XU pv ob ns sub):=by
  rw [ZlE]
  have fin:∀ a:List BL × JL,Good false fun l=>(Zba Yd l).bind fun _=>okP a:=fun a=>Zch.bind fun _=>Good.okP false a
  split
  ·exact ⟨Ze1.1.bind fun nm=>hv.bind fun v=>fin _,St.mono (m:=1) (St.bind (k:=1) (m:=1) Ze1.2 fun nm=>St.bind (k:=1) (m:=0) hs fun v=>(fin _).sf.st) (by omega)⟩
  ·exact ⟨Zch.bind fun _=>hv.bind fun v=>fin _,St.mono (m:=1) (St.bind (k:=0) (m:=1) (Ze7 _) fun _=>St.bind (k:=1) (m:=0) hs fun v=>(fin _).sf.st) (by omega)⟩
def L (pv:BL→Out JV) (ob:Bool) (ns:List BL) (sub:JL):BL→Out (List BL × JL):=fun l=>ZcR pv ob (l.length+1) ns sub l
theorem Zfx (hv:Good false pv) (hs:St 1 pv) (ob:Bool):∀ (n m:Nat) (ns:List BL) (sub:JL) (l:BL),l.length<n→l.length<m→ZcR pv ob n ns sub l=ZcR pv ob m ns sub l
  | 0,_,_,_,_,h,_=>by omega
  | _,0,_,_,_,_,h=>by omega
  | n+1,m+1,ns,sub,l,hn,hm=>by
    have go:∀ l',l'.length≤l.length→((XU pv ob ns sub l').bind fun p l2=>ZcR pv ob n p.1 p.2 l2)=(XU pv ob ns sub l').bind fun p l2=>ZcR pv ob m p.1 p.2 l2:=fun l' hl=>by
      cases e:XU pv ob ns sub l' with
      | err k r=>rfl
      | ok p r=>have:=(Zbe hv hs ob ns sub).2.len e;exact Zfx hv hs ob n m _ _ r (by omega) (by omega)
    unfold ZcR
    rw [go l (Nat.le_refl _),go l.tail (by simp)]
def lF (pv:BL→Out JV) (ob:Bool) (ns:List BL) (sub:JL) (c:UInt8):BL→Out (List BL × JL) :=
  if c=Zby ob then tlP (okP (ns,sub))
  else if sub.isNil=true then fun l=>(XU pv ob ns sub l).bind fun p=>L pv ob p.1 p.2
  else if c=44 then tlP fun l=>(XU pv ob ns sub l).bind fun p=>L pv ob p.1 p.2
  else Xt 20
theorem Zf4 (h0:pv [] = .err 24 []) (ob:Bool) (ns:List BL) (sub:JL):XU pv ob ns sub [] = .err 24 []:=by
  unfold XU
  cases ob
  ·show (pv []).bind _=_
   rw [h0];rfl
  ·rfl
theorem Znh (hv:Good false pv) (hs:St 1 pv) (h0:pv [] = .err 24 []) (ob:Bool) (ns:List BL) (sub:JL):L pv ob ns sub=hdP (.err 24 []) (lF pv ob ns sub):=by
  funext l
  rcases l with _ | ⟨c,l⟩
  ·show ZcR pv ob 1 ns sub [] = .err 24 []
   unfold ZcR
   rw [if_neg (by simp [Zbx]),Zf4 h0]
   split
   ·rfl
   ·rw [if_neg (by simp [Zbx])];rfl
  ·show ZcR pv ob ((c::l).length+1) ns sub (c::l)=lF pv ob ns sub c (c::l)
   unfold ZcR lF
   have go:∀ l',l'.length≤(c::l).length→((XU pv ob ns sub l').bind fun p l2=>ZcR pv ob (c::l).length p.1 p.2 l2)=(XU pv ob ns sub l').bind fun p=>L pv ob p.1 p.2:=fun l' hl=>by
     cases e:XU pv ob ns sub l' with
     | err k r=>rfl
     | ok p r=>have:=(Zbe hv hs ob ns sub).2.len e;exact Zfx hv hs ob _ _ _ _ r (by omega) (by omega)
   rw [go _ (Nat.le_refl _),go (c::l).tail (by simp)]
   by_cases h1:c=Zby ob
   ·rw [if_pos h1,if_pos (by simp [Zbx,h1])];rfl
   rw [if_neg h1,if_neg (by simp [Zbx,h1])]
   by_cases h2:sub.isNil=true
   ·rw [if_pos h2,if_pos h2]
   rw [if_neg h2,if_neg h2]
   by_cases h3:c=44
   ·rw [if_pos h3,if_pos (by simp [Zbx,h3])];rfl
   ·rw [if_neg h3,if_neg (by simp [Zbx,h3])]
theorem Zi7 (hv:Good false pv) (hs:St 1 pv) (h0:pv [] = .err 24 []) (ob:Bool):∀ (n:Nat) (ns:List BL) (sub:JL) (l:BL),l.length<n→(∀ a r,L pv ob ns sub l = .ok a r→r <:+l∧r.length<l.length)∧∀ e r,L pv ob ns sub l = .err e r→r <:+l∧(e=24↔r=[])
  | 0,_,_,_,h=>by omega
  | n+1,ns,sub,l,h=>by
    have ih:∀ l',l'.length≤l.length→l' <:+l→(∀ a r,((XU pv ob ns sub l').bind fun p=>L pv ob p.1 p.2) = .ok a r→r <:+l∧r.length<l.length)∧∀ e r,((XU pv ob ns sub l').bind fun p=>L pv ob p.1 p.2) = .err e r→r <:+l∧(e=24↔r=[]):=fun l' hl hsuf=>by
      have pg:=Zbe hv hs ob ns sub
      cases e:XU pv ob ns sub l' with
      | err k q=>exact ⟨fun a r h=>(by cases h),fun e' r h=>by cases h;exact ⟨(pg.1.sf.esuf e).1.trans hsuf,(pg.1.sf.esuf e).2⟩⟩
      | ok p q =>
        have h1:=pg.2.len e
        have h2:=(pg.1.sf.suf e).trans hsuf
        obtain ⟨a,b⟩:=Zi7 hv hs h0 ob n p.1 p.2 q (by omega)
        exact ⟨fun x r hr=>⟨(a x r hr).1.trans h2,by have:=(a x r hr).2;omega⟩,fun e' r hr=>⟨(b e' r hr).1.trans h2,(b e' r hr).2⟩⟩
    rw [Znh hv hs h0]
    rcases l with _ | ⟨c,l⟩
    ·exact ⟨fun a r h=>(by cases h),fun e r h=>by cases h;simp⟩
    show (∀ a r,lF pv ob ns sub c (c::l) = .ok a r→_)∧∀ e r,lF pv ob ns sub c (c::l) = .err e r→_
    unfold lF
    split
    ·exact ⟨fun a r h=>by cases h;exact ⟨List.suffix_cons _ _,by simp⟩,fun e r h=>by cases h⟩
    split
    ·exact ih _ (Nat.le_refl _) (List.suffix_refl _)
    split
    ·exact ih l (by simp) (List.suffix_cons _ _)
    ·exact ⟨fun a r h=>(by cases h),fun e r h=>by cases h;simp⟩
theorem Zok (hv:Good false pv) (hs:St 1 pv) (h0:pv [] = .err 24 []) (ob:Bool) (ns:List BL) (sub:JL):Good false (L pv ob ns sub)∧St 1 (L pv ob ns sub):=by
  have sf:∀ ns sub,Sf (L pv ob ns sub):=fun ns sub=>⟨fun h=>((Zi7 hv hs h0 ob _ ns sub _ (Nat.lt_succ_self _)).1 _ _ h).1,fun h=>(Zi7 hv hs h0 ob _ ns sub _ (Nat.lt_succ_self _)).2 _ _ h⟩
  have st:∀ ns sub,St 1 (L pv ob ns sub):=fun ns sub=>⟨fun h=>((Zi7 hv hs h0 ob _ ns sub _ (Nat.lt_succ_self _)).1 _ _ h).2⟩
  have fst:∀ ns sub c,St 1 (lF pv ob ns sub c):=fun ns sub c=>by
    unfold lF
    have pg:=Zbe hv hs ob ns sub
    have b:St 1 fun l=>(XU pv ob ns sub l).bind fun p=>L pv ob p.1 p.2:=St.mono (m:=1) (St.bind (k:=1) (m:=1) pg.2 fun p=>st _ _) (by omega)
    exact St.ite (X5 (Zdo _)) (St.ite b (St.ite (St.mono (X5 b) (by omega)) XM))
  have bn:∀ ns sub,Bn false (L pv ob ns sub):=fun ns sub=>by
    have pg:=Zbe hv hs ob ns sub
    rw [Znh hv hs h0]
    refine ⟨fun {b} _ hb=>?_,fun h=>by cases h⟩
    rcases b with _ | ⟨c,b⟩
    ·exact ⟨24,[],rfl,List.suffix_refl _⟩
    ·have hc:=hb c (by simp)
     show ∃ e r,lF pv ob ns sub c (c::b)=_∧_
     unfold lF
     rw [if_neg (Zf8 hc (by cases ob<;>decide)),if_neg (c:=c=44) (Zf8 hc (by decide))]
     split
     ·obtain ⟨e,r,h1,h2⟩:=pg.1.bn.bl (Zf4 h0 ob ns sub) hb
      exact ⟨e,r,by dsimp only;rw [h1];rfl,h2⟩
     ·exact ⟨20,_,rfl,List.suffix_refl _⟩
  have pe:∀ n ns sub,Pe n (L pv ob ns sub):=by
    intro n
    induction n with
    | zero=>intro ns sub;exact ⟨fun h=>by omega,fun h=>by omega,fun h=>by omega,fun h=>by omega⟩
    | succ n ih =>
      intro ns sub
      have pg:=Zbe hv hs ob ns sub
      rw [Znh hv hs h0]
      refine ZlQ (.inl rfl) (fun c r b h=>Zpz (fst ns sub c) h (Nat.le_refl _)) fun c=>?_
      unfold lF
      have b:Pe (n+1) fun l=>(XU pv ob ns sub l).bind fun p=>L pv ob p.1 p.2:=Pe.bind (m:=n) (k:=1) (pg.1.pe _) pg.1.sf pg.2 (fun p=>ih _ _) fun p=>sf _ _
      split
      ·exact ZhS (Zn9 _) (Zoa _)
      split
      ·exact b
      split
      ·exact ZhS (pg.1.sf.bind fun p=>sf _ _) (b.mono (Nat.le_succ n))
      ·exact Zjh
  have pb:∀ n ns sub,Pb n false (L pv ob ns sub):=by
    intro n
    induction n with
    | zero=>intro ns sub;exact ⟨fun h=>by omega,fun h=>by omega⟩
    | succ n ih =>
      intro ns sub
      have pg:=Zbe hv hs ob ns sub
      rw [Znh hv hs h0]
      refine ZlR fun c=>?_
      unfold lF
      have b:Pb (n+1) false fun l=>(XU pv ob ns sub l).bind fun p=>L pv ob p.1 p.2:=Pb.bind (m:=n) (k:=1) (s:=false) (s':=false) (pg.1.pe _) (pg.1.pb _) pg.1.sf pg.2 (fun p=>ih _ _) fun p=>bn _ _
      split
      ·exact ZhT (Zob _ _) (Zoc _ _)
      split
      ·exact b
      split
      ·exact ZhT (b.mono (Nat.le_succ n)) (pg.1.bn.bind (s':=false) pg.1.sf fun p=>bn _ _)
      ·exact Zji (by decide)
  exact ⟨⟨⟨sf ns sub,fun n=>pe n ns sub,fun n=>pb n ns sub⟩,bn ns sub⟩,st ns sub⟩
end
def vF (op:Bool→BL→Out JV) (c:UInt8):BL→Out JV :=
  if c=123 then op true
  else if c=91 then op false
  else if c=34 then tlP fun l=>(ZfJ l).bind fun t=>okP ⟨5,t,[],.nil⟩
  else if c=110 then fun l=>(Xi [110,117,108,108] l).bind fun _=>okP ⟨1,[],[],.nil⟩
  else if c=102 then fun l=>(Xi [102,97,108,115,101] l).bind fun _=>okP ⟨2,[],[],.nil⟩
  else if c=116 then fun l=>(Xi [116,114,117,101] l).bind fun _=>okP ⟨3,[],[],.nil⟩
  else if c=45∨YX c then fun l=>(Zcm ZcQ l).bind fun t=>okP ⟨4,t,[],.nil⟩
  else Xt 20
def vP (op:Bool→BL→Out JV):BL→Out JV:=fun l=>(Zba Yd l).bind fun _=>hdP (.err 24 []) (vF op)
theorem ZeN {op op':Bool→BL→Out JV} (h:∀ b c l,op b (c::l)=op' b (c::l)):Zcx op=vP op':=by
  funext l
  show Zcx op l=hdP _ _ (ZF l)
  unfold Zcx
  cases ZF l with
  | nil=>rfl
  | cons c l1 =>
    show _=vF op' c (c::l1)
    unfold vF
    dsimp only
    split
    ·exact h true c l1
    split
    ·exact h false c l1
    split
    ·rfl
    split
    ·rfl
    split
    ·rfl
    split
    ·rfl
    split
    ·show _=(Zcm ZcQ (c::l1)).bind _
     unfold Zcm
     cases ZcQ (c::l1)<;>rfl
    ·rfl
def opP (pv:BL→Out JV) (ob:Bool):BL→Out JV:=tlP fun l=>(Zba Yd l).bind fun _ l=>(L pv ob [] .nil l).bind fun p=>okP ⟨if ob then 7 else 6,[],p.1,p.2⟩
theorem Zi0 {pv:BL→Out JV} (hv:Good false pv) (hs:St 1 pv) (ob:Bool) (c:UInt8) (l:BL):Zi1 pv ob (c::l)=opP pv ob (c::l):=by
  show (ZcR pv ob _ [] .nil (ZF l)).bind _=(L pv ob [] .nil (ZF l)).bind _
  unfold L
  rw [Zfx hv hs ob ((c::l).length+1) ((ZF l).length+1)]
  ·rfl
  ·have:=(ZjK l).length_le;simp;omega
  ·omega
theorem Znx {op:Bool→BL→Out JV} (ho:∀ b,Hf false (op b)) (hs:∀ b,St 1 (op b)):Good false (vP op)∧St 1 (vP op):=by
  have w1:=Zcd [110,117,108,108] (by decide)
  have w2:=Zcd [102,97,108,115,101] (by decide)
  have w3:=Zcd [116,114,117,101] (by decide)
  have s0:Good false (fun l=>(ZfJ l).bind fun t=>okP (⟨5,t,[],.nil⟩:JV)):=by rw [Zdy];exact (Zq0 none []).bind fun t=>Good.okP false _
  have hf:∀ c,Hf false (vF op c):=fun c=>by
    unfold vF
    refine Hf.ite (ho true) (Hf.ite (ho false) (Hf.ite s0.tl (Hf.ite ?_ (Hf.ite ?_ (Hf.ite ?_ (Hf.ite ?_ (Hf.fail (by decide))))))))
    ·exact (w1.1.bind fun _=>Good.okP false _).toHf
    ·exact (w2.1.bind fun _=>Good.okP false _).toHf
    ·exact (w3.1.bind fun _=>Good.okP false _).toHf
    ·exact (Zd8.got.bind fun _=>Good.okP false _).toHf
  have st:∀ c,St 1 (vF op c):=fun c=>by
    unfold vF
    refine St.ite (hs true) (St.ite (hs false) (St.ite (X5 (k:=0) s0.sf.st) (St.ite ?_ (St.ite ?_ (St.ite ?_ (St.ite ?_ XM))))))
    ·exact St.mono (St.bind (m:=0) w1.2 fun _=>Zdo _) (by simp)
    ·exact St.mono (St.bind (m:=0) w2.2 fun _=>Zdo _) (by simp)
    ·exact St.mono (St.bind (m:=0) w3.2 fun _=>Zdo _) (by simp)
    ·exact St.bind (k:=1) (m:=0) (Zjd ZqK) fun _=>Zdo _
  have g:Good false (hdP (.err 24 []) (vF op)):=Good.hd hf st fun c hc=>⟨20,by
    rcases Zcq hc with rfl | rfl | rfl | rfl<;>rfl⟩
  exact ⟨Zch.bind fun _=>g,St.mono (St.bind (k:=0) (m:=1) (Ze7 _) fun _=>ZgW (fun a r h=>by cases h) st) (by omega)⟩
theorem YS:∀ n:Nat,Good false (Zz n)∧St 1 (Zz n)
  | 0=>by
    unfold Zz
    rw [ZeN (op':=fun _=>Xt 23) fun b c l=>rfl]
    exact Znx (fun _=>Hf.fail (by decide)) fun _=>XM
  | n+1=>by
    obtain ⟨hv,hs⟩:=YS n
    have h0:Zz n [] = .err 24 []:=by cases n<;>rfl
    unfold Zz
    rw [ZeN (op':=opP (Zz n)) fun b c l=>Zi0 hv hs b c l]
    have lg:=fun ob=>Zok hv hs h0 ob [] .nil
    exact Znx (fun b=>(Zch.bind fun _=>(lg b).1.bind fun p=>Good.okP false _).tl) fun b=>X5 (k:=0) (Zch.bind fun _=>(lg b).1.bind fun p=>Good.okP false _).sf.st
theorem Zds (n:Nat):Zz n [] = .err 24 []:=by cases n<;>rfl
theorem ZiF (n:Nat):Zz (n+1)=vP (opP (Zz n)):=ZeN fun b c l=>Zi0 (YS n).1 (YS n).2 b c l
theorem ZjB:Zz 0=vP fun _=>Xt 23:=ZeN fun b c l=>rfl
def Nz {α:Type} (p:BL→Out α):Prop:=∀ l e r,p l = .err e r→20≤e∧e≤24
section
variable {α β:Type}
theorem Nz.bind {p:BL→Out α} {f:α→BL→Out β} (hp:Nz p) (hf:∀ a,Nz (f a)):Nz fun l=>(p l).bind f:=fun l e r h=>by
  dsimp only at h
  cases h1:p l with
  | ok a l1=>rw [h1] at h;exact hf a _ _ _ h
  | err k q=>rw [h1] at h;cases h;exact hp _ _ _ h1
theorem Nz.hd {e0:Out α} {f:UInt8→BL→Out α} (h0:fin e0) (hf:∀ c,Nz (f c)):Nz (hdP e0 f):=fun l e r h=>by
  rcases l with _ | ⟨c,l⟩
  ·rcases h0 with ⟨b,h0⟩ | h0<;>(rw [show hdP e0 f []=e0 from rfl,h0] at h;cases h)
   exact ⟨by decide,by decide⟩
  ·exact hf c _ _ _ h
theorem Nz.tl {g:BL→Out α} (hg:Nz g):Nz (tlP g):=fun l e r h=>by
  rcases l with _ | ⟨c,l⟩
  ·cases h;exact ⟨by decide,by decide⟩
  ·exact hg _ _ _ h
theorem Nz.ok (a:α):Nz (okP a):=fun l e r h=>by cases h
theorem Nz.fail {e:Nat} (he:20≤e∧e≤24):Nz (Xt e:BL→Out α):=fun l k r h=>by
  cases l<;>cases h
  ·exact ⟨by decide,by decide⟩
  ·exact he
theorem Nz.ite {c:Prop} [Decidable c] {p q:BL→Out α} (hp:Nz p) (hq:Nz q):Nz (if c then p else q):=by split<;>assumption
theorem Nz.got {p:BL→Out α} (hp:Nz p):Nz (Zcm p):=fun l e r h=>hp _ _ _ (Zec h)
end
theorem Nz.drop (P:UInt8→Bool):Nz (Zba P):=fun l e r h=>by cases h
theorem Zg8:Nz Ya:=by rw [ZfA];exact Nz.hd (.inr rfl) fun c=>Nz.ite (Nz.drop _).tl (Nz.fail (by decide))
theorem Ztb:Nz ZcQ:=by
  have h1:Nz Ztg:=fun l e r h=>by cases h
  have h2:Nz Zag:=by rw [Zib];exact Nz.hd (.inl ⟨_,rfl⟩) fun c=>Nz.ite (Nz.fail (by decide)) (Nz.ok _)
  have h3:Nz ZeE:=by rw [Zk2];exact Nz.hd (.inr rfl) fun c=>Nz.ite h2.tl Zg8
  have h4:Nz ZcV:=by rw [ZlV];exact Nz.hd (.inl ⟨_,rfl⟩) fun c=>Nz.ite Zg8.tl (Nz.ok _)
  have h6:Nz Zs3:=fun l e r h=>by cases h
  have h5:Nz Zfd:=by rw [ZoI];exact Nz.hd (.inl ⟨_,rfl⟩) fun c=>Nz.ite (h6.bind fun _=>Zg8).tl (Nz.ok _)
  rw [ZkV]
  exact h1.bind fun _=>h3.bind fun _=>h4.bind fun _=>h5
theorem ZiE:∀ w:BL,Nz (Xi w)
  | []=>Nz.ok ()
  | c::w=>by rw [Zlq];exact Nz.hd (.inr rfl) fun d=>Nz.ite (ZiE w).tl (Nz.fail (by decide))
theorem ZqT:∀ k n:Nat,Nz (Zbk k n)
  | 0,n=>Nz.ok n
  | k+1,n=>by
    rw [Zoy]
    refine Nz.hd (.inr rfl) fun c=>?_
    cases ZeF c with
    | some d=>exact (ZqT k _).tl
    | none=>exact Nz.fail (by decide)
theorem ZsX:Nz ZhR:=by
  rw [ZnE]
  refine Nz.hd (.inr rfl) fun c=>?_
  cases Zav c with
  | some m=>exact (Nz.ok _).tl
  | none=>exact Nz.ite ((ZqT 4 0).bind fun n=>Nz.ok _).tl (Nz.fail (by decide))
theorem ZoS:∀ n lo hi:Nat,Nz (Zbv n lo hi)
  | 0,_,_=>Nz.ok ()
  | n+1,lo,hi=>by rw [Zl5];exact Nz.hd (.inr rfl) fun d=>Nz.ite (ZoS n _ _).tl (Nz.fail (by decide))
theorem Zrh:Nz XE:=by rw [Zlz];exact Nz.hd (.inr rfl) fun c=>Nz.ite (Nz.fail (by decide)) (ZoS _ _ _).tl
theorem Zf1:∀ (n:Nat) (p:Option Nat) (out l:BL) (e:Nat) (r:BL),ZaQ n p out l = .err e r→20≤e∧e≤24
  | 0,_,_,_,_,_,h=>by cases h;exact ⟨by decide,by decide⟩
  | n+1,p,out,[],_,_,h=>by cases h;exact ⟨by decide,by decide⟩
  | n+1,p,out,c::l,e,r,h=>by
    rw [Zaq] at h
    split at h
    ·cases h;exact ⟨by decide,by decide⟩
    split at h
    ·cases h
    split at h
    ·cases ht:ZhR l with
     | err k q=>rw [ht] at h;cases h;exact ZsX _ _ _ ht
     | ok t q=>rw [ht] at h;exact Zf1 n _ _ _ _ _ h
    split at h
    ·exact Zf1 n _ _ _ _ _ h
    ·cases ht:XE (c::l) with
     | err k q=>rw [ht] at h;cases h;exact Zrh _ _ _ ht
     | ok t q=>rw [ht] at h;exact Zf1 n _ _ _ _ _ h
theorem ZvH (p:Option Nat) (out:BL):Nz (T p out):=fun l e r h=>Zf1 _ _ _ _ _ _ h
theorem Zrs:Nz Zat:=by
  rw [ZlI]
  have g3:∀ nm:BL,Nz (hdP (.err 24 []) fun d=>if d=58 then tlP (okP nm) else Xt 20):=fun nm=>Nz.hd (.inr rfl) fun c=>Nz.ite (Nz.ok _).tl (Nz.fail (by decide))
  have g1:Nz fun l=>(ZfJ l).bind fun nm l=>(Zba Yd l).bind fun _=>hdP (.err 24 []) fun d=>if d=58 then tlP (okP nm) else Xt 20:=by
    rw [Zdy]
    exact (ZvH none []).bind fun nm=>(Nz.drop _).bind fun _=>g3 nm
  exact (Nz.drop _).bind fun _=>Nz.hd (.inr rfl) fun c=>Nz.ite g1.tl (Nz.fail (by decide))
theorem Zn1 {pv:BL→Out JV} (hv:Nz pv) (ob:Bool) (ns:List BL) (sub:JL):Nz (XU pv ob ns sub):=by
  rw [ZlE]
  split
  ·exact Zrs.bind fun nm=>hv.bind fun v=>(Nz.drop _).bind fun _=>Nz.ok _
  ·exact (Nz.drop _).bind fun _=>hv.bind fun v=>(Nz.drop _).bind fun _=>Nz.ok _
theorem Zk1 {pv:BL→Out JV} (hv:Nz pv) (ob:Bool):∀ (m:Nat) (ns:List BL) (sub:JL),Nz (ZcR pv ob m ns sub)
  | 0,_,_,l,e,r,h=>by cases h;exact ⟨by decide,by decide⟩
  | m+1,ns,sub,l,e,r,h=>by
    unfold ZcR at h
    split at h
    ·cases h
    split at h
    ·exact ((Zn1 hv ob ns sub).bind fun p=>Zk1 hv ob m p.1 p.2) _ _ _ h
    split at h
    ·exact ((Zn1 hv ob ns sub).bind fun p=>Zk1 hv ob m p.1 p.2) _ _ _ h
    ·exact Nz.fail (by decide) _ _ _ h
theorem ZsV {op:Bool→BL→Out JV} (ho:∀ b,Nz (op b)):Nz (vP op):=by
  refine (Nz.drop _).bind fun _=>Nz.hd (.inr rfl) fun c=>?_
  unfold vF
  have s0:Nz (fun l=>(ZfJ l).bind fun t=>okP (⟨5,t,[],.nil⟩:JV)):=by rw [Zdy];exact (ZvH none []).bind fun t=>Nz.ok _
  exact Nz.ite (ho true) (Nz.ite (ho false) (Nz.ite s0.tl (Nz.ite ((ZiE _).bind fun _=>Nz.ok _) (Nz.ite ((ZiE _).bind fun _=>Nz.ok _) (Nz.ite ((ZiE _).bind fun _=>Nz.ok _) (Nz.ite (Ztb.got.bind fun _=>Nz.ok _) (Nz.fail (by decide))))))))
theorem Zlr:∀ n:Nat,Nz (Zz n)
  | 0=>by rw [ZjB];exact ZsV fun _=>Nz.fail (by decide)
  | n+1=>by
    rw [ZiF]
    exact ZsV fun b=>Nz.tl ((Nz.drop _).bind fun _=>Nz.bind (fun l e r h=>Zk1 (Zlr n) b _ _ _ _ _ _ h) fun p=>Nz.ok _)
theorem Zd5 {l:BL} (h:l.length≤65536):Zaf l=match Zz 64 l with
    | .err e r=> .err e (l.length - r.length)
    | .ok v r=>match ZF r with
      | []=> .ok v
      | c::r'=> .err 25 (l.length - (c::r').length):=by
  unfold Zaf
  rw [if_neg (by omega)]
  rfl
theorem Zd6 {l:BL} (h:65536<l.length):Zaf l = .err 5 65536:=by
  unfold Zaf
  rw [if_pos h]
theorem ZpL {l:BL} {e k:Nat} (h:Zaf l = .err e k):e=5∨(20≤e∧e≤25):=by
  by_cases hl:l.length≤65536
  ·rw [Zd5 hl] at h
   cases h1:Zz 64 l with
   | err k q=>rw [h1] at h;cases h;have:=Zlr 64 _ _ _ h1;omega
   | ok v r =>
     rw [h1] at h
     simp only at h
     split at h
     ·cases h
     ·cases h;right;omega
  ·rw [Zd6 (by omega)] at h;cases h;exact .inl rfl
theorem Zlw:∀ {v:BL} {c:UInt8} {r':BL},ZF v=c::r'→∃ y,v=y++c::r'∧Blk y∧Yd c=false
  | [],c,r',h=>by cases h
  | d::v,c,r',h=>by
    by_cases hd:Yd d=true
    ·unfold ZF at h
     rw [List.dropWhile_cons_of_pos hd] at h
     obtain ⟨y,a,b,e⟩:=Zlw h
     exact ⟨d::y,by rw [a];rfl,fun x hx=>by rcases List.mem_cons.1 hx with rfl | hx;exact hd;exact b x hx,e⟩
    ·unfold ZF at h
     rw [List.dropWhile_cons_of_neg hd] at h
     cases h
     exact ⟨[],rfl,fun x hx=>(by cases hx),by simpa using hd⟩
def Zoz (n:Nat):UInt8:=UInt8.ofNat (if n<10 then 48+n else 87+n)
def ZcL (c:UInt8):BL :=
  if c=34∨c=92 then [92,c]
  else if c=8 then [92,98] else if c=12 then [92,102] else if c=10 then [92,110] else if c=13 then [92,114] else if c=9 then [92,116]
  else if c.toNat<32 then [92,117,48,48,Zoz (c.toNat / 16),Zoz (c.toNat % 16)]
  else [c]
def Zdn (t:BL):BL:=34::(t.flatMap ZcL++[34])
def prV (k:Nat) (t body:BL):BL :=
  if k=1 then [110,117,108,108] else if k=2 then [102,97,108,115,101] else if k=3 then [116,114,117,101]
  else if k=4 then t else if k=5 then Zdn t else if k=7 then 123::(body++[125]) else 91::(body++[93])
def Zkv (first:Bool):BL:=if first then [] else [44]
def nmB (ob:Bool) (ns:List BL):BL:=if ob then Zdn (ns.headD [])++[58] else []
def Z6:Bool→Bool→List BL→JL→BL
  | _,_,_,.nil=>[]
  | ob,first,ns,.cons k t ns' sub rest=>Zkv first++nmB ob ns++prV k t (Z6 (decide (k=7)) true ns' sub)++Z6 ob false ns.tail rest
def ZaJ (v:JV):BL:=prV v.k v.t (Z6 (decide (v.k=7)) true v.ns v.sub)
inductive Utf:BL→Prop where
  | nil:Utf []
  | cons {x l:BL}:Zad x=true→Utf l→Utf (x++l)
def Zdm (k:Nat) (t:BL) (ns:List BL) (sub:JL):Prop :=
  ((k=1∨k=2∨k=3)∧t=[]∧ns=[]∧sub = .nil)∨(k=4∧ZcQ t = .ok () []∧t.length≤65536∧ns=[]∧sub = .nil)∨(k=5∧Utf t∧ns=[]∧sub = .nil) ∨
    (k=6∧t=[]∧ns=[])∨(k=7∧t=[]∧ns.length=sub.len∧∀ n∈ns,Utf n)
def Zb2:Nat→JL→Prop
  | _,.nil=>True
  | 0,.cons k t ns sub rest=>Zdm k t ns sub∧k≠6∧k≠7∧Zb2 0 rest
  | d+1,.cons k t ns sub rest=>Zdm k t ns sub∧Zb2 d sub∧Zb2 (d+1) rest
def ZdD (d:Nat) (v:JV):Prop:=Zb2 d (.cons v.k v.t v.ns v.sub .nil)
theorem ZrI:∀ c:UInt8,c.toNat<128→(ZcL c=[c]∧32≤c.toNat∧c≠34∧c≠92)∨(∃ m,ZcL c=[92,m]∧Zav m=some c) ∨
    ∃ h l,ZcL c=[92,117,48,48,h,l]∧∃ a b,ZeF h=some a∧ZeF l=some b∧a*16+b=c.toNat∧c.toNat<32:=by
  have key:∀ b:Fin 256,b.val<128→(ZcL ⟨⟨b⟩⟩=[⟨⟨b⟩⟩]∧32≤b.val∧(⟨⟨b⟩⟩:UInt8)≠34∧(⟨⟨b⟩⟩:UInt8)≠92)∨(Zav ((ZcL ⟨⟨b⟩⟩).getD 1 0)=some ⟨⟨b⟩⟩∧ZcL ⟨⟨b⟩⟩=[92,(ZcL ⟨⟨b⟩⟩).getD 1 0]) ∨
      (b.val<32∧ZcL ⟨⟨b⟩⟩=[92,117,48,48,Zoz (b.val / 16),Zoz (b.val % 16)]∧ZeF (Zoz (b.val / 16))=some (b.val / 16)∧ZeF (Zoz (b.val % 16))=some (b.val % 16)):=by decide +kernel
  rintro ⟨⟨b⟩⟩ h
  rcases key b h with h | h | h
  ·exact .inl h
  ·exact .inr (.inl ⟨_,h.2,h.1⟩)
  ·exact .inr (.inr ⟨_,_,h.2.1,_,_,h.2.2.1,h.2.2.2,by show b.val / 16*16+b.val % 16=b.val;omega,h.1⟩)
theorem Zra {c:UInt8} (h:c.toNat<128):Zbb (Zdb c.toNat)=[c]:=by
  unfold Zdb
  rw [if_neg (by omega)]
  unfold Zbb
  rw [if_pos h]
  simp
theorem ZyI {h l:UInt8} {a b:Nat} (ha:ZeF h=some a) (hb:ZeF l=some b) (r:BL):Zbk 4 0 (48::48::h::l::r) = .ok (a*16+b) r:=by
  have h0:ZeF 48=some 0:=by decide
  simp only [Zbk,h0,ha,hb]
  congr 1
  omega
theorem ZnP {x:BL} (hx:Zad x=true) (out r:BL):T none out (x.flatMap ZcL++r)=T none (out++x) r:=by
  rcases x with _ | ⟨c,x⟩
  ·cases hx
  by_cases hc:c.toNat<128
  ·have hx0:x=[]:=by
     simp only [Zad,Zj1 c hc,Bool.and_eq_true,decide_eq_true_eq] at hx
     exact List.eq_nil_of_length_eq_zero (by omega)
   subst hx0
   simp only [List.flatMap_cons,List.flatMap_nil,List.append_nil]
   rw [Zsa]
   rcases ZrI c hc with ⟨e,h32,h34,h92⟩ | ⟨m,e,hm⟩ | ⟨h,l,e,a,b,ha,hb,hab,h32⟩
   ·rw [e]
    show tF none out c (c::r)=_
    unfold tF
    rw [if_neg (by omega),if_neg h34,if_neg h92,if_pos hc]
    simp [tlP,flB]
   ·rw [e]
    show tF none out 92 (92::m::r)=_
    unfold tF
    rw [if_neg (by decide),if_neg (by decide),if_pos rfl]
    show (ZhR (m::r)).bind _=_
    rw [Zbc,hm]
    simp [ZfP,flB]
   ·rw [e]
    show tF none out 92 (92::117::48::48::h::l::r)=_
    unfold tF
    rw [if_neg (by decide),if_neg (by decide),if_pos rfl]
    show (ZhR (117::48::48::h::l::r)).bind _=_
    rw [Zbc,Zoi]
    simp only [↓reduceIte]
    rw [ZyI ha hb,hab]
    have hi:ZfW c.toNat=false:=by unfold ZfW;simp;omega
    simp only [Out.bind_ok,ZfP,hi,Bool.false_eq_true,↓reduceIte,Zra hc]
  ·
   have h128:128≤c.toNat:=by omega
   have hl:=hx
   simp only [Zad,Bool.and_eq_true,decide_eq_true_eq] at hl
   have hn2:2≤nRb c:=by
     rcases ZqC c h128 with ⟨t0,_⟩ | ⟨_,tc,_⟩<;>omega
   have big:∀ (y:BL) (lo hi:Nat),128≤lo→okC lo hi y=true→∀ d∈y,128≤d.toNat:=by
     intro y
     induction y with
     | nil=>intro _ _ _ _ d hd;cases hd
     | cons z y ih =>
       intro lo hi hlo h d hd
       simp only [okC,Bool.and_eq_true,decide_eq_true_eq] at h
       rcases List.mem_cons.1 hd with rfl | hd
       ·omega
       ·exact ih 128 191 (Nat.le_refl _) h.2 d hd
   have all:∀ d∈c::x,128≤d.toNat:=fun d hd=>by
     rcases List.mem_cons.1 hd with rfl | hd
     ·exact h128
     ·exact big x _ _ (Zom c hn2) hl.2 d hd
   have same:∀ y:BL,(∀ d∈y,128≤d.toNat)→y.flatMap ZcL=y:=by
     intro y
     induction y with
     | nil=>intro _;rfl
     | cons z y ih =>
       intro h
       have hz:=h z (by simp)
       rw [List.flatMap_cons,ih fun d hd=>h d (by simp [hd])]
       have:ZcL z=[z]:=by
         have key:∀ b:Fin 256,128≤b.val→ZcL ⟨⟨b⟩⟩=[⟨⟨b⟩⟩]:=by decide +kernel
         rcases z with ⟨⟨b⟩⟩
         exact key b hz
       rw [this];rfl
   rw [same _ all,Zsa]
   show tF none out c (c::(x++r))=_
   unfold tF
   have n34:c≠34:=fun e=>by rw [e] at h128;revert h128;decide
   have n92:c≠92:=fun e=>by rw [e] at h128;revert h128;decide
   rw [if_neg (by omega),if_neg n34,if_neg n92,if_neg hc]
   show (Zcm XE (c::x++r)).bind _=_
   unfold Zcm
   rw [ZjM hx]
   simp only [Out.bind_ok,flB,List.append_nil]
   rw [Zaa]
theorem Zps {t:BL} (h:Utf t):∀ out r,T none out (t.flatMap ZcL++r)=T none (out++t) r:=by
  induction h with
  | nil=>intro out r;simp
  | cons hx _ ih =>
    intro out r
    rw [List.flatMap_append,List.append_assoc,ZnP hx,ih,List.append_assoc]
theorem Zvk (out r:BL):T none out (34::r) = .ok out r:=by
  rw [Zsa]
  show tF none out 34 (34::r)=_
  unfold tF
  rw [if_neg (by decide),if_pos rfl]
  simp [tlP,okP,flB]
theorem Zlu {t:BL} (h:Utf t) (r:BL):ZfJ (t.flatMap ZcL++34::r) = .ok t r:=by
  rw [Zdy,Zps h,Zvk,List.nil_append]
def ZnM (r:BL):Prop:=r=[]∨∃ c l,r=c::l∧(c=44∨c=93∨c=125)
theorem ZpR {t r:BL} (h:ZcQ t = .ok () []) (hr:ZnM r):ZcQ (t++r) = .ok () r:=by
  rcases hr with rfl | ⟨c,l,rfl,hc⟩
  ·rwa [List.append_nil]
  ·have np:c≠46∧YX c=false∧c≠101∧c≠69∧c≠43∧c≠45∧c≠48:=by
     rcases hc with rfl | rfl | rfl<;>decide
   obtain ⟨n46,nd,n101,n69,n43,n45,n48⟩:=np
   have dg:∀ {l1 q:BL},Ya l1 = .ok () q→Ya (l1++c::l) = .ok () (q++c::l):=fun {l1 q} hh=>by
     rcases l1 with _ | ⟨d,l1⟩
     ·cases hh
     ·dsimp only [Ya,List.cons_append] at hh ⊢
      split at hh
      ·rename_i hd
       cases hh
       rw [if_pos hd]
       congr 1
       by_cases ha:∀ x∈l1,YX x=true
       ·rw [List.dropWhile_append_of_pos ha,Zkf.2 ha,List.dropWhile_cons_of_neg (by simp [nd])];rfl
       ·clear hd h
        induction l1 with
        | nil=>exact absurd (fun x hx=>by cases hx) ha
        | cons e l1 ih =>
          by_cases he:YX e=true
          ·rw [List.cons_append,List.dropWhile_cons_of_pos he,List.dropWhile_cons_of_pos he]
           exact ih fun hh=>ha fun x hx=>by
             rcases List.mem_cons.1 hx with rfl | hx
             ·exact he
             ·exact hh x hx
          ·rw [List.cons_append,List.dropWhile_cons_of_neg he,List.dropWhile_cons_of_neg he];rfl
      ·cases hh
   have mn:∀ l1:BL,l1≠[]→XK (l1++c::l)=XK l1++c::l:=fun l1 hne=>by
     rcases l1 with _ | ⟨d,l1⟩
     ·exact absurd rfl hne
     ·dsimp only [XK,List.cons_append]
      split<;>rfl
   have it:∀ {l1 q:BL},ZeE l1 = .ok () q→ZeE (l1++c::l) = .ok () (q++c::l):=fun {l1 q} hh=>by
     rcases l1 with _ | ⟨d,l1⟩
     ·cases hh
     ·by_cases hd:d=48
      ·subst hd
       rw [List.cons_append,show ZeE (48::(l1++c::l))=Zag (l1++c::l) from rfl]
       rw [show ZeE (48::l1)=Zag l1 from rfl] at hh
       rcases l1 with _ | ⟨e,l1⟩
       ·cases hh
        show (if YX c=true then _ else _)=_
        rw [if_neg (by simp [nd])];rfl
       ·dsimp only [Zag,List.cons_append] at hh ⊢
        split at hh
        ·cases hh
        ·rename_i he;cases hh;rw [if_neg he];rfl
      ·have e1:∀ w,ZeE (d::w)=Ya (d::w):=fun w=>by
         show (if d=48 then _ else _)=_
         rw [if_neg hd]
       rw [List.cons_append,e1]
       rw [e1] at hh
       exact dg hh
   have fr:∀ {l1 q:BL},ZcV l1 = .ok () q→ZcV (l1++c::l) = .ok () (q++c::l):=fun {l1 q} hh=>by
     rcases l1 with _ | ⟨d,l1⟩
     ·cases hh
      show (if c=46 then _ else _)=_
      rw [if_neg n46];rfl
     ·dsimp only [ZcV,List.cons_append] at hh ⊢
      split at hh
      ·rename_i hd;rw [if_pos hd];exact dg hh
      ·rename_i hd;rw [if_neg hd];cases hh;rfl
   have ex:∀ {l1 q:BL},Zfd l1 = .ok () q→Zfd (l1++c::l) = .ok () (q++c::l):=fun {l1 q} hh=>by
     rcases l1 with _ | ⟨d,l1⟩
     ·cases hh
      show (if c=101∨c=69 then _ else _)=_
      rw [if_neg (by simp [n101,n69])];rfl
     ·dsimp only [Zfd,List.cons_append] at hh ⊢
      split at hh
      ·rename_i hd
       rw [if_pos hd]
       have sg:Zeg (l1++c::l)=Zeg l1++c::l:=by
         rcases l1 with _ | ⟨e,l1⟩
         ·cases hh
         ·dsimp only [Zeg,List.cons_append]
          split<;>rfl
       rw [sg]
       exact dg hh
      ·rename_i hd;rw [if_neg hd];cases hh;rfl
   obtain ⟨l1,l2,h1,h2,h3⟩:=Zf5 h
   have hne:t≠[]:=by
     rintro rfl
     cases h1
   unfold ZcQ
   rw [mn t hne,it h1]
   simp only [Out.bind_ok]
   rw [fr h2]
   simp only [Out.bind_ok]
   rw [ex h3];rfl
theorem ZlH {t:BL} (h:ZcQ t = .ok () []):∃ c l,t=c::l∧(c=45∨YX c=true):=by
  obtain ⟨l1,l2,h1,h2,h3⟩:=Zf5 h
  rcases t with _ | ⟨c,t⟩
  ·cases h1
  ·refine ⟨c,t,rfl,?_⟩
   by_cases hc:c=45
   ·exact .inl hc
   ·right
    have:XK (c::t)=c::t:=by
      show (if c=45 then _ else _)=_
      rw [if_neg hc]
    rw [this] at h1
    by_cases h48:c=48
    ·subst h48;decide
    ·have:ZeE (c::t)=Ya (c::t):=by
       show (if c=48 then _ else _)=_
       rw [if_neg h48]
     rw [this] at h1
     dsimp only [Ya] at h1
     split at h1
     ·assumption
     ·cases h1
def Zqq:JL→JL→JL
  | .nil,b=>b
  | .cons k t ns s r,b=> .cons k t ns s (Zqq r b)
theorem Zmb (v:JV) (b:JL):∀ a:JL,Zqq (a.snoc v) b=Zqq a (.cons v.k v.t v.ns v.sub b)
  | .nil=>rfl
  | .cons _ _ _ _ r=>by simp only [JL.snoc,Zqq,Zmb v b r]
theorem Zo2:∀ a:JL,Zqq a .nil=a
  | .nil=>rfl
  | .cons _ _ _ _ r=>by simp only [Zqq,Zo2 r]
theorem Zrq (b:JL):Zqq .nil b=b:=rfl
theorem ZhX (v:JV) (a:JL):(a.snoc v).isNil=false:=by cases a<;>rfl
theorem ZiZ {k:Nat} {t:BL} {ns:List BL} {sub:JL} (h:Zdm k t ns sub) (body:BL):∃ c l,prV k t body=c::l∧Yd c=false∧c≠44∧c≠93∧c≠125:=by
  rcases h with ⟨hk | hk | hk,_⟩ | ⟨hk,hn,_⟩ | ⟨hk,_⟩ | ⟨hk,_⟩ | ⟨hk,_⟩<;>subst hk
  ·exact ⟨_,_,rfl,by decide,by decide,by decide,by decide⟩
  ·exact ⟨_,_,rfl,by decide,by decide,by decide,by decide⟩
  ·exact ⟨_,_,rfl,by decide,by decide,by decide,by decide⟩
  ·obtain ⟨c,l,e,hc⟩:=ZlH hn
   refine ⟨c,l,e,?_,?_,?_,?_⟩
   ·cases hb:Yd c with
    | false=>rfl
    | true =>
      rcases Zcq hb with rfl | rfl | rfl | rfl<;>(rcases hc with hc | hc<;>revert hc<;>decide)
   all_goals (rintro rfl;rcases hc with hc | hc<;>revert hc<;>decide)
  ·exact ⟨_,_,rfl,by decide,by decide,by decide,by decide⟩
  ·exact ⟨_,_,rfl,by decide,by decide,by decide,by decide⟩
  ·exact ⟨_,_,rfl,by decide,by decide,by decide,by decide⟩
theorem XO {c:UInt8} {l:BL} (h:Yd c=false):ZF (c::l)=c::l:=by
  unfold ZF;rw [List.dropWhile_cons_of_neg (by simp [h])]
theorem Zh8 {n:Nat} {k:Nat} {t:BL} {ns:List BL} {sub:JL} (h:Zdm k t ns sub) (h6:k≠6) (h7:k≠7) (body:BL) {r:BL} (hr:ZnM r) :
    Zz n (prV k t body++r) = .ok ⟨k,t,ns,sub⟩ r:=by
  have go:∀ op,vP op (prV k t body++r) = .ok ⟨k,t,ns,sub⟩ r:=fun op=>by
    obtain ⟨c,l,e,hb,_⟩:=ZiZ h body
    show hdP _ (vF op) (ZF (prV k t body++r))=_
    rw [show ZF (prV k t body++r)=prV k t body++r by rw [e];exact XO hb]
    rcases h with ⟨hk,ht,hns,hsub⟩ | ⟨hk,hn,_,hns,hsub⟩ | ⟨hk,hu,hns,hsub⟩ | ⟨hk,_⟩ | ⟨hk,_⟩
    ·subst ht hns hsub
     rcases hk with hk | hk | hk<;>subst hk<;>rfl
    ·subst hk hns hsub
     obtain ⟨c,l,e,hc⟩:=ZlH hn
     show hdP _ (vF op) (t++r)=_
     have hg:Zcm ZcQ (t++r) = .ok t r:=by unfold Zcm;rw [ZpR hn hr];simp only [Out.bind_ok];rw [Zaa]
     rw [e] at hg ⊢
     show vF op c (c::(l++r))=_
     have hne:c≠123∧c≠91∧c≠34∧c≠110∧c≠102∧c≠116:=by
       refine ⟨?_,?_,?_,?_,?_,?_⟩<;>(rintro rfl;rcases hc with hc | hc<;>revert hc<;>decide)
     obtain ⟨a1,a2,a3,a4,a5,a6⟩:=hne
     unfold vF
     rw [if_neg a1,if_neg a2,if_neg a3,if_neg a4,if_neg a5,if_neg a6,if_pos hc]
     show (Zcm ZcQ (c::l++r)).bind _=_
     rw [hg];rfl
    ·subst hk hns hsub
     show vF op 34 (34::(t.flatMap ZcL++[34]++r))=_
     unfold vF
     rw [if_neg (by decide),if_neg (by decide),if_pos rfl]
     show (ZfJ (t.flatMap ZcL++[34]++r)).bind _=_
     rw [List.append_assoc,show ([34]:BL)++r=34::r from rfl,Zlu hu];rfl
    ·exact absurd hk h6
    ·exact absurd hk h7
  cases n with
  | zero=>rw [ZjB];exact go _
  | succ n=>rw [ZiF];exact go _
theorem Zmz (ob:Bool) (ns:List BL) (rest:JL) (r:BL):ZnM (Z6 ob false ns rest++Zby ob::r):=by
  right
  cases rest with
  | nil=>exact ⟨_,_,rfl,by cases ob<;>simp [Zby]⟩
  | cons k t ns' sub rest=>exact ⟨44,_,rfl,.inl rfl⟩
theorem Zj3 {n:Nat} (hv:∀ k t ns sub r,Zb2 n (.cons k t ns sub .nil)→ZnM r→Zz n (prV k t (Z6 (decide (k=7)) true ns sub)++r) = .ok ⟨k,t,ns,sub⟩ r) (ob:Bool) (r:BL) :
    ∀ (rest:JL) (ns ns0:List BL) (sub0:JL),Zb2 n rest→(ob=true→ns.length=rest.len∧∀ m∈ns,Utf m)→(ob=false→ns=[]) →
      L (Zz n) ob ns0 sub0 (Z6 ob sub0.isNil ns rest++Zby ob::r) = .ok (ns0++ns,Zqq sub0 rest) r
  | .nil,ns,ns0,sub0,_,h1,h2=>by
    have hn:ns=[]:=by
      cases ob with
      | false=>exact h2 rfl
      | true=>exact List.eq_nil_of_length_eq_zero (by rw [(h1 rfl).1];rfl)
    subst hn
    rw [Znh (YS n).1 (YS n).2 (Zds n)]
    show lF (Zz n) ob ns0 sub0 (Zby ob) (Zby ob::r)=_
    unfold lF
    rw [if_pos rfl,Zo2,List.append_nil];rfl
  | .cons k t ns' sub rest,ns,ns0,sub0,hr,h1,h2=>by
    have hr1:Zb2 n (.cons k t ns' sub .nil)∧Zb2 n rest∧Zdm k t ns' sub:=by
      cases n with
      | zero=>exact ⟨⟨hr.1,hr.2.1,hr.2.2.1,trivial⟩,hr.2.2.2,hr.1⟩
      | succ n=>exact ⟨⟨hr.1,hr.2.1,trivial⟩,hr.2.2,hr.1⟩
    obtain ⟨hr1,hr2,hk⟩:=hr1
    have ih:=fun ns1 sub1=>Zj3 hv ob r rest ns.tail ns1 sub1 hr2
    have hst:=Zmz ob ns.tail rest r
    obtain ⟨c,l,ec,hb,hc44,hc93,hc125⟩:=ZiZ hk (Z6 (decide (k=7)) true ns' sub)
    have part:XU (Zz n) ob ns0 sub0 (nmB ob ns++prV k t (Z6 (decide (k=7)) true ns' sub)++(Z6 ob false ns.tail rest++Zby ob::r)) =
        .ok (if ob then ns0++[ns.headD []] else ns0,sub0.snoc ⟨k,t,ns',sub⟩) (Z6 ob false ns.tail rest++Zby ob::r):=by
      have hsk:ZF (Z6 ob false ns.tail rest++Zby ob::r)=Z6 ob false ns.tail rest++Zby ob::r:=by
        cases rest with
        | nil=>exact XO (by cases ob<;>decide)
        | cons k2 t2 ns2 sub2 rest2=>exact XO (c:=44) (by decide)
      have hv1:=hv k t ns' sub _ hr1 hst
      cases ob with
      | false =>
        show (Zz n (ZF _)).bind _=_
        have hs2:ZF (prV k t (Z6 (decide (k=7)) true ns' sub)++(Z6 false false ns.tail rest++Zby false::r))=prV k t (Z6 (decide (k=7)) true ns' sub)++(Z6 false false ns.tail rest++Zby false::r):=by rw [ec];exact XO hb
        rw [show nmB false ns=[] from rfl,List.nil_append,hs2,hv1]
        simp only [Out.bind_ok,hsk];rfl
      | true =>
        have hu:Utf (ns.headD []):=by
          cases ns with
          | nil=>exact .nil
          | cons a ns=>exact (h1 rfl).2 a (by simp)
        show (Zat _).bind _=_
        have hnm:∀ w,Zat (nmB true ns++w) = .ok (ns.headD []) w:=fun w=>by
          rw [show nmB true ns++w=34::((ns.headD []).flatMap ZcL++34::(58::w)) by simp [nmB,Zdn]]
          unfold Zat
          rw [XO (by decide)]
          simp only [↓reduceIte]
          rw [Zlu hu]
          simp only [Out.bind_ok]
          rw [XO (by decide)]
          simp
        rw [List.append_assoc,hnm]
        simp only [Out.bind_ok]
        rw [hv1]
        simp only [Out.bind_ok,hsk];rfl
    have fin:L (Zz n) ob (if ob then ns0++[ns.headD []] else ns0) (sub0.snoc ⟨k,t,ns',sub⟩) (Z6 ob false ns.tail rest++Zby ob::r) = .ok (ns0++ns,Zqq sub0 (.cons k t ns' sub rest)) r:=by
      have:=ih (if ob then ns0++[ns.headD []] else ns0) (sub0.snoc ⟨k,t,ns',sub⟩) (fun h=>by
          subst h
          obtain ⟨a,b⟩:=h1 rfl
          cases ns with
          | nil=>cases a
          | cons m ns=>exact ⟨by simpa [JL.len] using a,fun x hx=>b x (by simp at hx;simp [hx])⟩) (fun h=>by rw [h2 h];rfl)
      rw [ZhX,Zmb] at this
      rw [this]
      congr 2
      cases ob with
      | false=>rw [h2 rfl];rfl
      | true =>
        cases ns with
        | nil=>have:=(h1 rfl).1;cases this
        | cons m ns=>simp
    rw [Znh (YS n).1 (YS n).2 (Zds n)]
    have first:∀ w:BL,∃ d l2,nmB ob ns++prV k t (Z6 (decide (k=7)) true ns' sub)++w=d::l2∧d≠Zby ob:=fun w=>by
      cases ob with
      | false=>rw [ec];exact ⟨c,_,rfl,hc93⟩
      | true=>exact ⟨34,_,rfl,by decide⟩
    show hdP _ _ (Zkv sub0.isNil++nmB ob ns++prV k t (Z6 (decide (k=7)) true ns' sub)++Z6 ob false ns.tail rest++Zby ob::r)=_
    cases hs:sub0.isNil with
    | true =>
      rw [show Zkv true++nmB ob ns++prV k t (Z6 (decide (k=7)) true ns' sub)++Z6 ob false ns.tail rest++Zby ob::r=nmB ob ns++prV k t (Z6 (decide (k=7)) true ns' sub)++(Z6 ob false ns.tail rest++Zby ob::r) by simp [Zkv]]
      obtain ⟨d,l2,e2,hd⟩:=first (Z6 ob false ns.tail rest++Zby ob::r)
      rw [e2] at part ⊢
      show lF (Zz n) ob ns0 sub0 d (d::l2)=_
      unfold lF
      rw [if_neg hd,if_pos hs]
      show (XU (Zz n) ob ns0 sub0 (d::l2)).bind _=_
      rw [part]
      exact fin
    | false =>
      rw [show Zkv false++nmB ob ns++prV k t (Z6 (decide (k=7)) true ns' sub)++Z6 ob false ns.tail rest++Zby ob::r=44::(nmB ob ns++prV k t (Z6 (decide (k=7)) true ns' sub)++(Z6 ob false ns.tail rest++Zby ob::r)) by simp [Zkv]]
      show lF (Zz n) ob ns0 sub0 44 (44::_)=_
      unfold lF
      rw [if_neg (by cases ob<;>decide),if_neg (by simp [hs]),if_pos rfl]
      show (XU (Zz n) ob ns0 sub0 _).bind _=_
      rw [part]
      exact fin
theorem ZhP:∀ (n:Nat) (k:Nat) (t:BL) (ns:List BL) (sub:JL) (r:BL),Zb2 n (.cons k t ns sub .nil)→ZnM r→Zz n (prV k t (Z6 (decide (k=7)) true ns sub)++r) = .ok ⟨k,t,ns,sub⟩ r
  | 0,k,t,ns,sub,r,h,hr=>Zh8 h.1 h.2.1 h.2.2.1 _ hr
  | n+1,k,t,ns,sub,r,h,hr=>by
    have lists:∀ ob:Bool,k=(if ob then 7 else 6)→t=[]→(ob=true→ns.length=sub.len∧∀ m∈ns,Utf m)→(ob=false→ns=[])→Zz (n+1) (prV k t (Z6 (decide (k=7)) true ns sub)++r) = .ok ⟨k,t,ns,sub⟩ r:=fun ob hk ht h1 h2=>by
      subst ht
      have hl:=Zj3 (fun k t ns sub r=>ZhP n k t ns sub r) ob r sub ns [] .nil h.2.1 h1 h2
      have hsk:ZF (Z6 ob true ns sub++Zby ob::r)=Z6 ob true ns sub++Zby ob::r:=by
        cases sub with
        | nil=>exact XO (by cases ob<;>decide)
        | cons k2 t2 ns2 sub2 rest2 =>
          have hk2:Zdm k2 t2 ns2 sub2:=by
            have:=h.2.1
            cases n<;>exact this.1
          cases ob with
          | true=>exact XO (c:=34) (by decide)
          | false =>
            obtain ⟨c,l,e,hb,_⟩:=ZiZ hk2 (Z6 (decide (k2=7)) true ns2 sub2)
            show ZF (Zkv true++nmB false ns++prV k2 t2 _++_++_)=Zkv true++nmB false ns++prV k2 t2 _++_++_
            rw [e]
            exact XO hb
      have hopen:opP (Zz n) ob ((if ob then 123 else 91)::(Z6 ob true ns sub++Zby ob::r)) = .ok ⟨k,[],ns,sub⟩ r:=by
        show (L (Zz n) ob [] .nil (ZF (Z6 ob true ns sub++Zby ob::r))).bind _=_
        rw [hsk]
        rw [show Z6 ob true ns sub=Z6 ob (JL.nil).isNil ns sub from rfl,hl,Zrq]
        rw [hk]
        rfl
      rw [ZiF]
      show hdP _ (vF _) (ZF _)=_
      cases ob with
      | true =>
        simp only [↓reduceIte] at hk
        subst hk
        rw [show prV 7 [] (Z6 (decide (7=7)) true ns sub)++r=123::(Z6 true true ns sub++Zby true::r) by simp [prV,Zby],XO (by decide)]
        exact hopen
      | false =>
        simp only [Bool.false_eq_true,↓reduceIte] at hk
        subst hk
        rw [show prV 6 [] (Z6 (decide (6=7)) true ns sub)++r=91::(Z6 false true ns sub++Zby false::r) by simp [prV,Zby],XO (by decide)]
        exact hopen
    by_cases h6:k=6
    ·refine lists false h6 ?_ (fun h=>by cases h) fun _=>?_
     ·rcases h.1 with ⟨hk,_⟩ | ⟨hk,_⟩ | ⟨hk,_⟩ | ⟨_,ht,_⟩ | ⟨_,ht,_⟩
      ·omega
      ·omega
      ·omega
      ·exact ht
      ·exact ht
     ·rcases h.1 with ⟨hk,_⟩ | ⟨hk,_⟩ | ⟨hk,_⟩ | ⟨_,_,hn⟩ | ⟨hk,_⟩
      ·omega
      ·omega
      ·omega
      ·exact hn
      ·omega
    by_cases h7:k=7
    ·rcases h.1 with ⟨hk,_⟩ | ⟨hk,_⟩ | ⟨hk,_⟩ | ⟨hk,_⟩ | ⟨_,ht,hn⟩
     ·omega
     ·omega
     ·omega
     ·omega
     ·exact lists true h7 ht (fun _=>hn) fun h=>by cases h
    ·exact Zh8 h.1 h6 h7 _ hr
theorem ZmF {v:JV} (h:ZdD 64 v) (hl:(ZaJ v).length≤65536):Zaf (ZaJ v) = .ok v:=by
  rw [Zd5 hl]
  have:=ZhP 64 v.k v.t v.ns v.sub [] h (.inl rfl)
  rw [List.append_nil] at this
  unfold ZaJ
  rw [this]
  rfl
theorem Utf.app {a b:BL} (ha:Utf a) (hb:Utf b):Utf (a++b):=by
  induction ha with
  | nil=>exact hb
  | cons hx _ ih=>rw [List.append_assoc];exact .cons hx ih
theorem Utf.one {x:BL} (h:Zad x=true):Utf x:=by
  have:=Utf.cons h .nil
  rwa [List.append_nil] at this
theorem Zk5 {c:UInt8} {d:Nat} (h:ZeF c=some d):d<16:=by
  unfold ZeF at h
  split at h
  ·cases h;omega
  split at h
  ·cases h;omega
  split at h
  ·cases h;omega
  ·cases h
theorem ZgV:∀ (k:Nat) {n m:Nat} {l r:BL},Zbk k n l = .ok m r→m<(n+1)*16 ^ k
  | 0,n,m,_,_,h=>by cases h;omega
  | k+1,n,m,[],_,h=>by cases h
  | k+1,n,m,c::l,r,h=>by
    unfold Zbk at h
    cases hd:ZeF c with
    | none=>simp only [hd] at h;cases h
    | some d =>
      simp only [hd] at h
      have h1:=ZgV k h
      have h2:=Zk5 hd
      have h3:n*16+d+1≤(n+1)*16:=by omega
      have h4:(n*16+d+1)*16 ^ k≤((n+1)*16)*16 ^ k:=Nat.mul_le_mul_right _ h3
      rw [Nat.pow_succ]
      have h5:(n+1)*16*16 ^ k=(n+1)*(16 ^ k*16):=by rw [Nat.mul_assoc,Nat.mul_comm 16]
      omega
theorem Zbr {n:Nat} (h:n<256):(UInt8.ofNat n).toNat=n:=by simp;omega
theorem ZfZ {n:Nat} (h:n<1114112) (hs:n<55296∨57344≤n):Zad (Zbb n)=true:=by
  unfold Zbb
  split
  ·rename_i h1
   have:=Zj1 (UInt8.ofNat n) (by rw [Zbr (by omega)];exact h1)
   simp [Zad,this,okC]
  split
  ·rename_i h1 h2
   have ht:ZfI (UInt8.ofNat (192+n / 64)).toNat=(2,128,191):=by
     rw [Zbr (by omega)];unfold ZfI;rw [if_neg (by omega),if_pos (by omega)]
   have hb:(UInt8.ofNat (128+n % 64)).toNat=128+n % 64:=Zbr (by omega)
   simp only [Zad,nRb,loR,hiR,ht,okC,hb,Bool.and_eq_true,decide_eq_true_eq,List.length_cons,List.length_nil,and_true]
   omega
  split
  ·rename_i h1 h2 h3
   have b1:(UInt8.ofNat (224+n / 4096)).toNat=224+n / 4096:=Zbr (by omega)
   have b2:(UInt8.ofNat (128+n / 64 % 64)).toNat=128+n / 64 % 64:=Zbr (by omega)
   have b3:(UInt8.ofNat (128+n % 64)).toNat=128+n % 64:=Zbr (by omega)
   have ht:ZfI (UInt8.ofNat (224+n / 4096)).toNat=(3,if n / 4096=0 then 160 else 128,if n / 4096=13 then 159 else 191):=by
     rw [b1];unfold ZfI
     rw [if_neg (by omega),if_neg (by omega)]
     by_cases c0:n / 4096=0
     ·rw [if_pos (by omega),if_pos c0,if_neg (by omega)]
     ·rw [if_neg (by omega),if_neg c0]
      by_cases c13:n / 4096=13
      ·rw [if_pos (by omega),if_pos c13]
      ·rw [if_neg (by omega),if_pos (by omega),if_neg c13]
   simp only [Zad,nRb,loR,hiR,ht,okC,b2,b3,Bool.and_eq_true,decide_eq_true_eq,List.length_cons,List.length_nil,and_true]
   refine ⟨by omega,⟨?_,?_⟩,by omega⟩
   ·split<;>omega
   ·split<;>omega
  ·rename_i h1 h2 h3
   have b1:(UInt8.ofNat (240+n / 262144)).toNat=240+n / 262144:=Zbr (by omega)
   have b2:(UInt8.ofNat (128+n / 4096 % 64)).toNat=128+n / 4096 % 64:=Zbr (by omega)
   have b3:(UInt8.ofNat (128+n / 64 % 64)).toNat=128+n / 64 % 64:=Zbr (by omega)
   have b4:(UInt8.ofNat (128+n % 64)).toNat=128+n % 64:=Zbr (by omega)
   have ht:ZfI (UInt8.ofNat (240+n / 262144)).toNat=(4,if n / 262144=0 then 144 else 128,if n / 262144=4 then 143 else 191):=by
     rw [b1];unfold ZfI
     rw [if_neg (by omega),if_neg (by omega),if_neg (by omega),if_neg (by omega),if_neg (by omega)]
     by_cases c0:n / 262144=0
     ·rw [if_pos (by omega),if_pos c0,if_neg (by omega)]
     ·rw [if_neg (by omega),if_neg c0]
      by_cases c4:n / 262144=4
      ·rw [if_neg (by omega),if_pos (by omega),if_pos c4]
      ·rw [if_pos (by omega),if_neg c4]
   simp only [Zad,nRb,loR,hiR,ht,okC,b2,b3,b4,Bool.and_eq_true,decide_eq_true_eq,List.length_cons,List.length_nil,and_true]
   refine ⟨by omega,⟨?_,?_⟩,by omega⟩
   ·split<;>omega
   ·split<;>omega
theorem ZoF {k:Nat} (h:k<65536):Zad (Zbb (Zdb k))=true:=by
  unfold Zdb
  split
  ·exact ZfZ (by decide) (.inr (by decide))
  ·exact ZfZ (by omega) (by omega)
theorem Zjg:Zad (Zbb 65533)=true:=ZfZ (by decide) (.inr (by decide))
theorem ZpU:∀ c m:UInt8,Zav c=some m→m.toNat<128:=by
  intro c m h
  unfold Zav at h
  repeat' split at h
  all_goals (cases h;try decide)
theorem Zn7 {c:UInt8} (h:c.toNat<128):Zad [c]=true:=by simp [Zad,Zj1 c h,okC]
theorem Zty (p:Option Nat):Utf (flB p):=by
  cases p with
  | none=>exact .nil
  | some n=>exact Utf.one Zjg
theorem Zf0:∀ (n:Nat) (p:Option Nat) (out l t r:BL),Utf out→(∀ k,p=some k→ZfW k=true)→ZaQ n p out l = .ok t r→Utf t
  | 0,_,_,_,_,_,_,_,h=>by cases h
  | n+1,p,out,[],_,_,_,_,h=>by cases h
  | n+1,p,out,c::l,t,r,ho,hp,h=>by
    have hof:Utf (out++flB p):=ho.app (Zty p)
    rw [Zaq] at h
    split at h
    ·cases h
    split at h
    ·cases h;exact hof
    split at h
    ·cases ht:ZhR l with
     | err k q=>rw [ht] at h;cases h
     | ok k q =>
       rw [ht] at h
       have hk:(∀ j,(ZfP p out k).1=some j→ZfW j=true)∧Utf (ZfP p out k).2:=by
         cases k with
         | ch m =>
           refine ⟨fun j hj=>(by cases hj),hof.app (Utf.one (Zn7 ?_))⟩
           rcases l with _ | ⟨d,l⟩
           ·cases ht
           ·rw [Zbc] at ht
            cases hm:Zav d with
            | some m'=>rw [hm] at ht;cases ht;exact ZpU _ _ hm
            | none =>
              rw [hm] at ht
              simp only at ht
              split at ht
              ·obtain ⟨_,_,_,h2⟩:=ZJ ht;cases h2
              ·cases ht
         | uni m =>
           have hm:m<65536:=by
             rcases l with _ | ⟨d,l⟩
             ·cases ht
             ·rw [Zbc] at ht
              cases hm:Zav d with
              | some m'=>rw [hm] at ht;cases ht
              | none =>
                rw [hm] at ht
                simp only at ht
                split at ht
                ·obtain ⟨x,l1,h1,h2⟩:=ZJ ht
                 cases h2
                 have:=ZgV 4 h1
                 omega
                ·cases ht
           cases p with
           | none =>
             unfold ZfP
             simp only
             split
             ·rename_i hh;exact ⟨fun j hj=>by cases hj;exact hh,ho⟩
             ·exact ⟨fun j hj=>(by cases hj),ho.app (Utf.one (ZoF hm))⟩
           | some k =>
             have hk:=hp k rfl
             unfold ZfP
             simp only
             split
             ·rename_i hl
              refine ⟨fun j hj=>(by cases hj),ho.app (Utf.one (ZfZ ?_ (.inr ?_)))⟩
              ·simp [ZfW,Zjx] at hk hl;unfold Zei;omega
              ·unfold Zei;omega
             split
             ·rename_i hh;exact ⟨fun j hj=>by cases hj;exact hh,ho.app (Utf.one Zjg)⟩
             ·exact ⟨fun j hj=>(by cases hj),(ho.app (Utf.one Zjg)).app (Utf.one (ZoF hm))⟩
       exact Zf0 n _ _ _ _ _ hk.2 hk.1 h
    split at h
    ·rename_i hc
     exact Zf0 n _ _ _ _ _ (hof.app (Utf.one (Zn7 hc))) (fun k hk=>by cases hk) h
    ·cases ht:XE (c::l) with
     | err k q=>rw [ht] at h;cases h
     | ok k q =>
       rw [ht] at h
       obtain ⟨x,e,hx⟩:=Zgt ht
       refine Zf0 n _ _ _ _ _ (hof.app (Utf.one ?_)) (fun k hk=>by cases hk) h
       rw [e,Zaa]
       exact hx
theorem ZnK {l t r:BL} (h:ZfJ l = .ok t r):Utf t:=by
  rw [Zdy] at h
  exact Zf0 _ _ _ _ _ _ .nil (fun k hk=>by cases hk) h
theorem ZrC {l t r:BL} (h:Zcm ZcQ l = .ok t r):ZcQ t = .ok () []∧t.length+r.length=l.length:=by
  obtain ⟨⟨a,h1⟩,e⟩:=ZdN h
  obtain ⟨x,rfl⟩:=Zd8.sf.suf h1
  rw [Zaa] at e
  subst e
  refine ⟨?_,by simp⟩
  rcases r with _ | ⟨c,r⟩
  ·rwa [List.append_nil] at h1
  ·exact (Zd8.pe (t.length+1)).cutO (by omega) h1
def Zdr:JL→Nat
  | .nil=>0
  | .cons _ _ _ sub rest=>1+Zdr sub+Zdr rest
def Zhp (v:JV):Nat:=1+Zdr v.sub
theorem Zjp (v:JV):∀ l:JL,Zdr (l.snoc v)=Zdr l+Zhp v
  | .nil=>by simp [JL.snoc,Zdr,Zhp]
  | .cons _ _ _ _ r=>by simp only [JL.snoc,Zdr,Zjp v r];omega
theorem Zd2 {d:Nat} {v:JV} (hv:ZdD d v):∀ {l:JL},Zb2 d l→Zb2 d (l.snoc v)
  | .nil,_=>hv
  | .cons k t ns s r,h=>by
    cases d with
    | zero=>exact ⟨h.1,h.2.1,h.2.2.1,Zd2 hv h.2.2.2⟩
    | succ d=>exact ⟨h.1,h.2.1,Zd2 hv h.2.2⟩
theorem ZmM {l nm r:BL} (h:Zat l = .ok nm r):Utf nm∧r.length+1≤l.length:=by
  refine ⟨?_,Ze1.2.len h⟩
  unfold Zat at h
  split at h
  ·split at h
   ·obtain ⟨t,l2,h1,h2⟩:=ZJ h
    split at h2
    ·split at h2
     ·cases h2;exact ZnK h1
     ·cases h2
    ·cases h2
   ·cases h
  ·cases h
theorem ZaL (l:BL):(ZF l).length≤l.length:=(ZjK l).length_le
def Zhl (d:Nat) (ob:Bool) (ns:List BL) (sub:JL):Prop:=Zb2 d sub∧(ob=true→ns.length=sub.len∧∀ m∈ns,Utf m)∧(ob=false→ns=[])
theorem Zie {d:Nat} (hv:∀ l v r,l.length≤65536→Zz d l = .ok v r→ZdD d v∧Zhp v+r.length≤l.length) (ob:Bool):∀ (m:Nat) (ns:List BL) (sub:JL) (l:BL) (p:List BL × JL) (r:BL),
    l.length≤65536→Zhl d ob ns sub→ZcR (Zz d) ob m ns sub l = .ok p r→Zhl d ob p.1 p.2∧Zdr p.2+r.length≤Zdr sub+l.length
  | 0,_,_,_,_,_,_,_,h=>by cases h
  | m+1,ns,sub,l,p,r,hlen,ho,h=>by
    have part:∀ l' q w,l'.length≤65536→XU (Zz d) ob ns sub l' = .ok q w→Zhl d ob q.1 q.2∧Zdr q.2+w.length≤Zdr sub+l'.length:=fun l' q w hlq hq=>by
      unfold XU at hq
      split at hq
      ·rename_i hob
       obtain ⟨nm,l3,h1,h2⟩:=ZJ hq
       obtain ⟨v,l4,h3,h4⟩:=ZJ h2
       cases h4
       obtain ⟨a,b⟩:=ZmM h1
       obtain ⟨c,e⟩:=hv _ _ _ (by omega) h3
       obtain ⟨o1,o2,o3⟩:=ho
       refine ⟨⟨Zd2 c o1,fun _=>⟨?_,?_⟩,fun hh=>?_⟩,?_⟩
       ·simp only [List.length_append,JL.len_snoc,(o2 hob).1,List.length_singleton]
       ·intro x hx
        rcases List.mem_append.1 hx with hx | hx
        ·exact (o2 hob).2 x hx
        ·simp at hx;rw [hx];exact a
       ·rw [hob] at hh;cases hh
       ·dsimp only
        rw [Zjp]
        have:=ZaL l4
        omega
      ·rename_i hob
       obtain ⟨v,l4,h3,h4⟩:=ZJ hq
       cases h4
       obtain ⟨c,e⟩:=hv _ _ _ (by have:=ZaL l';omega) h3
       obtain ⟨o1,o2,o3⟩:=ho
       refine ⟨⟨Zd2 c o1,fun hh=>absurd hh hob,fun hh=>o3 hh⟩,?_⟩
       dsimp only
       rw [Zjp]
       have:=ZaL l4
       have:=ZaL l'
       omega
    have go:∀ l',l'.length≤l.length→((XU (Zz d) ob ns sub l').bind fun p l2=>ZcR (Zz d) ob m p.1 p.2 l2) = .ok p r→Zhl d ob p.1 p.2∧Zdr p.2+r.length≤Zdr sub+l.length:=fun l' hl hq=>by
      obtain ⟨q,w,h1,h2⟩:=ZJ hq
      obtain ⟨a,b⟩:=part _ _ _ (by omega) h1
      have:=(Zbe (YS d).1 (YS d).2 ob ns sub).2.len h1
      obtain ⟨c,e⟩:=Zie hv ob m _ _ _ _ _ (by omega) a h2
      exact ⟨c,by omega⟩
    unfold ZcR at h
    split at h
    ·cases h;exact ⟨ho,by simp⟩
    split at h
    ·exact go _ (Nat.le_refl _) h
    split at h
    ·exact go _ (by simp) h
    ·cases l<;>cases h
theorem ZgG {op:Bool→BL→Out JV} {d:Nat} (hop:∀ b c l v r,(c::l).length≤65536→op b (c::l) = .ok v r→ZdD d v∧Zhp v+r.length≤(c::l).length):∀ l v r,l.length≤65536→Zcx op l = .ok v r→ZdD d v∧Zhp v+r.length≤l.length:=by
  intro l v r hlen h
  have hsk:=ZaL l
  have rj:∀ {k:Nat} {t:BL},Zdm k t [] .nil→k≠6→k≠7→ZdD d ⟨k,t,[],.nil⟩:=fun {k t} hk h6 h7=>by
    cases d with
    | zero=>exact ⟨hk,h6,h7,trivial⟩
    | succ d=>exact ⟨hk,trivial,trivial⟩
  unfold Zcx at h
  split at h
  ·cases h
  ·rename_i c l1 e
   rw [e] at hsk
   split at h
   ·have:=hop _ _ _ _ _ (by omega) h;exact ⟨this.1,by omega⟩
   split at h
   ·have:=hop _ _ _ _ _ (by omega) h;exact ⟨this.1,by omega⟩
   split at h
   ·obtain ⟨t,r1,h1,h2⟩:=ZJ h
    cases h2
    have hl:r.length+1≤l1.length:=by rw [Zdy] at h1;exact (ZtY none []).len h1
    exact ⟨rj (.inr (.inr (.inl ⟨rfl,ZnK h1,rfl,rfl⟩))) (by decide) (by decide),by simp [Zhp,Zdr] at hsk ⊢;omega⟩
   split at h
   ·obtain ⟨t,r1,h1,h2⟩:=ZJ h
    cases h2
    have hl:=(Zcd [110,117,108,108] (by decide)).2.len h1
    exact ⟨rj (.inl ⟨.inl rfl,rfl,rfl,rfl⟩) (by decide) (by decide),by simp [Zhp,Zdr] at hsk hl ⊢;omega⟩
   split at h
   ·obtain ⟨t,r1,h1,h2⟩:=ZJ h
    cases h2
    have hl:=(Zcd [102,97,108,115,101] (by decide)).2.len h1
    exact ⟨rj (.inl ⟨.inr (.inl rfl),rfl,rfl,rfl⟩) (by decide) (by decide),by simp [Zhp,Zdr] at hsk hl ⊢;omega⟩
   split at h
   ·obtain ⟨t,r1,h1,h2⟩:=ZJ h
    cases h2
    have hl:=(Zcd [116,114,117,101] (by decide)).2.len h1
    exact ⟨rj (.inl ⟨.inr (.inr rfl),rfl,rfl,rfl⟩) (by decide) (by decide),by simp [Zhp,Zdr] at hsk hl ⊢;omega⟩
   split at h
   ·obtain ⟨t,r1,h1,h2⟩:=ZJ h
    cases h2
    have hg:Zcm ZcQ (c::l1) = .ok (Zfc (c::l1) r) r:=by unfold Zcm;rw [h1];rfl
    obtain ⟨a,b⟩:=ZrC hg
    have hl:=ZqK.len h1
    exact ⟨rj (.inr (.inl ⟨rfl,a,by omega,rfl,rfl⟩)) (by decide) (by decide),by simp [Zhp,Zdr] at hsk hl ⊢;omega⟩
   ·cases h
theorem Zgh:∀ (d:Nat) (l:BL) (v:JV) (r:BL),l.length≤65536→Zz d l = .ok v r→ZdD d v∧Zhp v+r.length≤l.length
  | 0,l,v,r,hlen,h=>ZgG (op:=fun _ l=>Xt 23 l) (fun b c l v r _ h=>by cases h) l v r hlen h
  | d+1,l,v,r,hlen,h=>by
    refine ZgG (op:=Zi1 (Zz d)) (fun b c l v r hl h=>?_) l v r hlen h
    obtain ⟨p,q,h1,h2⟩:=ZJ h
    cases h2
    have hs:=ZaL l
    have h0:Zhl d b [] .nil:=⟨by cases d<;>exact trivial,fun _=>⟨rfl,fun m hm=>by cases hm⟩,fun _=>rfl⟩
    obtain ⟨⟨o1,o2,o3⟩,o4⟩:=Zie (Zgh d) b _ _ _ _ _ _ (by simp at hl ⊢;omega) h0 h1
    refine ⟨⟨?_,o1,trivial⟩,?_⟩
    ·cases b with
     | true=>exact .inr (.inr (.inr (.inr ⟨rfl,rfl,o2 rfl⟩)))
     | false=>exact .inr (.inr (.inr (.inl ⟨rfl,rfl,o3 rfl⟩)))
    ·have e:Zdr JL.nil=0:=rfl
     have hs':(ZF (c::l).tail).length≤l.length:=hs
     simp only [Zhp,List.length_cons]
     omega
theorem Zex {l:BL} {v:JV} (h:Zaf l = .ok v):ZdD 64 v∧Zhp v≤65536∧l.length≤65536:=by
  by_cases hl:l.length≤65536
  ·rw [Zd5 hl] at h
   cases h1:Zz 64 l with
   | err k q=>rw [h1] at h;cases h
   | ok w r =>
     rw [h1] at h
     simp only at h
     obtain ⟨a,b⟩:=Zgh 64 l w r hl h1
     split at h
     ·cases h
      exact ⟨a,by omega,hl⟩
     ·cases h
  ·rw [Zd6 (by omega)] at h;cases h
end Go.Js
namespace Go.Proofs.YtpjbjdheeemdiaaGreatDoor
open Go Go.Fw Go.Js
theorem Zge {n:Int} (h0 : -2147483648≤n) (h1:n≤2147483647):IntKind.wrap .i32 n=n:=by
  unfold IntKind.wrap
  have hb:(2:Int) ^ IntKind.i32.bits=4294967296:=by decide
  have hb':(2:Int) ^ (IntKind.i32.bits - 1)=2147483648:=by decide
  have hs:IntKind.i32.signed=true:=rfl
  simp only [hb,hb',hs,Bool.true_and]
  rcases Int.lt_or_le n 0 with h | h
  ·have:n % 4294967296=n+4294967296:=by omega
   rw [this,if_pos (by simp;omega)]
   omega
  ·have:n % 4294967296=n:=by omega
   rw [this,if_neg (by simp;omega)]
theorem Zq7 {n:Int} (h0:0≤n) (h1:n<4294967296):IntKind.wrap .u32 n=n:=by
  unfold IntKind.wrap
  have hb:(2:Int) ^ IntKind.u32.bits=4294967296:=by decide
  have hs:IntKind.u32.signed=false:=rfl
  simp only [hb,hs,Bool.false_and,Bool.false_eq_true,if_false]
  omega
theorem Zs2 {n k:Nat} (hk:k≤20) (h:n*2 ^ k<2147483648):Zlx .i32 (n:Int) (k:Int)=((n*2 ^ k:Nat):Int):=by
  unfold Zlx
  rw [Int.toNat_natCast,show min k IntKind.i32.bits=k from Nat.min_eq_left (by show k≤32;omega)]
  rw [show (n:Int)*2 ^ k=((n*2 ^ k:Nat):Int) by push_cast;rfl,Zge (by omega) (by omega)]
theorem ZyF {a d:Nat} (ha:a*16<2147483648) (hd:d<16):orV .i32 ((a*16:Nat):Int) (d:Int)=((a*16+d:Nat):Int):=by
  unfold orV
  have hb:IntKind.i32.bits=32:=rfl
  rw [hb,BitVec.ofInt_natCast,BitVec.ofInt_natCast,BitVec.toNat_or,BitVec.toNat_ofNat,BitVec.toNat_ofNat,Nat.mod_eq_of_lt (by omega),Nat.mod_eq_of_lt (by omega)]
  have h1:a*16+d=a*16 ||| d:=by
    have:=Nat.shiftLeft_add_eq_or_of_lt (b:=d) (i:=4) (by omega) a
    rwa [Nat.shiftLeft_eq] at this
  rw [← h1,Zge (by omega) (by omega)]
theorem ZgU {N c:Nat} {d:Nat} (hN:N<65536) (hd:d<16) {x:Int} (hx:x=(d:Int)):orV .i32 (Zlx .i32 (N:Int) 4) (IntKind.wrap .i32 x)=((N*16+d:Nat):Int):=by
  subst hx
  rw [show ((4:Int))=((4:Nat):Int) from rfl,Zs2 (by omega) (by omega),Zge (by omega) (by omega)]
  exact ZyF (by omega) hd
theorem Zmo {n k:Nat} (hk:k≤20):Zhm .i32 (n:Int) (k:Int)=((n / 2 ^ k:Nat):Int):=by
  unfold Zhm
  rw [Int.toNat_natCast,show min k IntKind.i32.bits=k from Nat.min_eq_left (by show k≤32;omega)]
  have:(2:Int) ^ k=((2 ^ k:Nat):Int):=by push_cast;rfl
  rw [this,Int.fdiv_eq_ediv_of_nonneg _ (Int.natCast_nonneg _)]
  rfl
theorem w8 (n:Nat):IntKind.wrap .u8 (n:Int)=((n % 256:Nat):Int):=by rw [Znn];rfl
theorem Zvi {a:Nat} (ha:a<256):Zhi .u8 (a:Int) 63=((a % 64:Nat):Int):=by
  have:∀ b:Fin 256,Zhi .u8 ((b.val:Nat):Int) 63=((b.val % 64:Nat):Int):=by decide +kernel
  exact this ⟨a,ha⟩
theorem ZuZ {a:Nat} (ha:a<64):orV .u8 128 (a:Int)=((128+a:Nat):Int):=by
  have:∀ b:Fin 64,orV .u8 128 ((b.val:Nat):Int)=((128+b.val:Nat):Int):=by decide +kernel
  exact this ⟨a,ha⟩
theorem ZuY {a:Nat} (ha:a<32):orV .u8 192 (a:Int)=((192+a:Nat):Int):=by
  have:∀ b:Fin 32,orV .u8 192 ((b.val:Nat):Int)=((192+b.val:Nat):Int):=by decide +kernel
  exact this ⟨a,ha⟩
theorem ZuX {a:Nat} (ha:a<16):orV .u8 224 (a:Int)=((224+a:Nat):Int):=by
  have:∀ b:Fin 16,orV .u8 224 ((b.val:Nat):Int)=((224+b.val:Nat):Int):=by decide +kernel
  exact this ⟨a,ha⟩
theorem ZuW {a:Nat} (ha:a<8):orV .u8 240 (a:Int)=((240+a:Nat):Int):=by
  have:∀ b:Fin 8,orV .u8 240 ((b.val:Nat):Int)=((240+b.val:Nat):Int):=by decide +kernel
  exact this ⟨a,ha⟩
theorem Zkp {n:Nat} (h:n<256):Value.int .u8 (n:Int)=bv (UInt8.ofNat n):=by
  unfold bv;rw [Zbr h]
theorem ZcX (n:Nat):Value.int .u8 (orV .u8 128 (Zhi .u8 (IntKind.wrap .u8 (n:Int)) 63))=bv (UInt8.ofNat (128+n % 64)):=by
  rw [w8,Zvi (by omega),ZuZ (by omega),show n % 256 % 64=n % 64 by omega]
  exact Zkp (by omega)
theorem ZcT (c:UInt8):(48≤c.toNat∧c.toNat≤57∧ZeF c=some (c.toNat - 48))∨(¬ (48≤c.toNat∧c.toNat≤57)∧97≤c.toNat∧c.toNat≤102∧ZeF c=some (c.toNat - 87)) ∨
    (¬ (48≤c.toNat∧c.toNat≤57)∧¬ (97≤c.toNat∧c.toNat≤102)∧65≤c.toNat∧c.toNat≤70∧ZeF c=some (c.toNat - 55)) ∨
    (¬ (48≤c.toNat∧c.toNat≤57)∧¬ (97≤c.toNat∧c.toNat≤102)∧¬ (65≤c.toNat∧c.toNat≤70)∧ZeF c=none):=by
  unfold ZeF
  by_cases h1:48≤c.toNat∧c.toNat≤57
  ·rw [if_pos h1];exact .inl ⟨h1.1,h1.2,rfl⟩
  rw [if_neg h1]
  by_cases h2:97≤c.toNat∧c.toNat≤102
  ·rw [if_pos h2];exact .inr (.inl ⟨h1,h2.1,h2.2,rfl⟩)
  rw [if_neg h2]
  by_cases h3:65≤c.toNat∧c.toNat≤70
  ·rw [if_pos h3];exact .inr (.inr (.inl ⟨h1,h2,h3.1,h3.2,rfl⟩))
  ·rw [if_neg h3];exact .inr (.inr (.inr ⟨h1,h2,h3,rfl⟩))
theorem Ze4 (k n:Nat) (c:UInt8) (l:BL):Zbk (k+1) n (c::l)=match ZeF c with
    | some d=>Zbk k (n*16+d) l
    | none=> .err 22 (c::l):=rfl
theorem ZlP {h:Zc} {R:Nat} {s:ByteArray} {l:BL} (hr:Rd h R s l) {K:Int→HP} {P:Value→HP}
    (hok:∀ (n:Nat) r h',Zbk 4 0 l = .ok n r→Rd h' R s r→Upd (· = R) h h'→sz h'=sz h→K n h') (herr:OnE h R s (· = R) (Zbk 4 0 l) P):XQ (At R) K P h:=by
  unfold XQ ZbC
  refine Za (Za ?_)
  refine ZQ (fun p h'=>∃ (N k:Nat) (l':BL),p.1=N∧p.2.1=((4 - k:Nat):Int)∧k≤4∧N<16 ^ (4 - k)∧Zbk k N l'=Zbk 4 0 l∧Rd h' R s l'∧Upd (· = R) h h'∧sz h'=sz h) (fun p _=>(4 - p.2.1).toNat) ⟨0,4,l,rfl,rfl,by omega,by decide,rfl,hr,Upd.refl _ _,rfl⟩ ?_
  rintro ⟨n1,s5,u⟩ h2 ⟨N,k,l2,e1,e2,hk,hN,q2,r2,u2,z2⟩
  dsimp only at e1 e2 ⊢
  subst e1 e2
  refine Zk (fun hlt=>?_) fun hge=>?_
  ·obtain ⟨k,rfl⟩:∃ k',k=k'+1:=⟨k - 1,by omega⟩
   have hN2:N<65536:=by
     have:16 ^ (4 - (k+1))≤16 ^ 4:=Nat.pow_le_pow_right (by decide) (by omega)
     omega
   refine YW r2 (Za ?_)
   refine Zo (fun p h'=>h'=h2∧∃ c l3 d,l2=c::l3∧ZeF c=some d∧p.1=((N*16+d:Nat):Int)) ?_ ?_
   ·rintro ⟨n,u⟩ h3 ⟨rfl,c,l3,d,rfl,hd,hn⟩
    dsimp only at hn ⊢
    subst hn
    refine Za7 r2 fun h4 r4 u4 z4=>?_
    rw [ZZ (by omega) (by omega)]
    refine ⟨⟨N*16+d,k,l3,rfl,by omega,by omega,?_,?_,r4,u2.trans u4,z4.trans z2⟩,by omega⟩
    ·have h16:=Zk5 hd
     rw [show 4 - k=(4 - (k+1))+1 by omega,Nat.pow_succ]
     omega
    ·rw [← q2,Ze4,hd]
   ·
    have bad:(∀ c l3,l2=c::l3→ZeF c=none)→∀ e' r,(Xt 22 l2:Out Nat) = .err e' r→r=l2→P (Zcw e' (s.size - r.length)) h2:=fun hno e' r he hr'=>by
      refine herr e' r h2 ?_ u2
      rw [← q2,← he]
      rcases l2 with _ | ⟨c,l3⟩
      ·rfl
      ·rw [Ze4,hno c l3 rfl];rfl
    refine Zo (fun p h'=>h'=h2∧p.1=decide (48≤Xj l2∧Xj l2≤57)) ?_ ?_
    ·rintro ⟨b,u⟩ h3 ⟨rfl,hb⟩
     dsimp only at hb ⊢
     subst hb
     rcases l2 with _ | ⟨c,l3⟩
     ·refine Zq (by simp [Xj]) ?_
      have hf:=bad fun c l3 e=>by cases e
      refine Zq (by simp [Xj]) (Zq (by simp [Xj]) (X4 r2 rfl hf))
     ·have hz:Xj (c::l3)=(c.toNat:Int):=rfl
      generalize Xj (c::l3)=z at hz ⊢
      subst hz
      rcases ZcT c with ⟨a1,a2,hd⟩ | ⟨a0,a1,a2,hd⟩ | ⟨a0,b0,a1,a2,hd⟩ | ⟨a0,b0,c0,hd⟩
      ·refine Zp (by simp;omega) ⟨by decide,Za ⟨rfl,c,l3,_,rfl,hd,ZgU (c:=0) hN2 (by omega) ?_⟩⟩
       rw [Zjz (by omega) (by omega)];omega
      ·refine Zq (by simp;omega) (Zp (by simp;omega) (Zf (Zp (by simp;omega) ⟨by decide,Za ⟨rfl,c,l3,_,rfl,hd,ZgU (c:=0) hN2 (by omega) ?_⟩⟩)))
       rw [Zjz (n:=(c.toNat:Int) - 97) (by omega) (by omega),Zjz (by omega) (by omega)];omega
      ·refine Zq (by simp;omega) (Zq (by simp;omega) (Zp (by simp;omega) (Zf (Zp (by simp;omega) ⟨by decide,Za ⟨rfl,c,l3,_,rfl,hd,ZgU (c:=0) hN2 (by omega) ?_⟩⟩))))
       rw [Zjz (n:=(c.toNat:Int) - 65) (by omega) (by omega),Zjz (by omega) (by omega)];omega
      ·have hf:=bad fun c' l3' e=>by cases e;exact hd
       refine Zq (by simp;omega) (Zk (fun h97=>Zf (Zq (by simp;omega) (Zp (by simp;omega) (Zf (Zq (by simp;omega) (X4 r2 rfl hf)))))) fun h97=>Zk (fun h65=>Zf (Zq (by simp;omega) (X4 r2 rfl hf))) fun h65=>X4 r2 rfl hf)
    ·refine Zk (fun h48=>Zf ⟨rfl,?_⟩) fun h48=>⟨rfl,?_⟩
     ·simp;omega
     ·simp;omega
  ·obtain rfl:k=0:=by omega
   refine Za (hok N l2 h2 ?_ r2 u2 z2)
   rw [← q2];rfl
theorem Zdw (n:Nat):(Zbb n).length≤4:=by
  unfold Zbb
  split
  ·exact Nat.le_of_ble_eq_true rfl
  split
  ·exact Nat.le_of_ble_eq_true rfl
  split
  ·exact Nat.le_of_ble_eq_true rfl
  ·exact Nat.le_of_ble_eq_true rfl
theorem Zhh {h:Zc} {base:Nat} {x:Sl} {l:BL} {n:Nat} (hb:Buf h base x l) (hbase:base≤sz h) (hn:n<1114112) (hsur:n<55296∨57344≤n) (hs:l.length+4≤1000000000) {K:Sl→HP}
    (hk:∀ x' h',Buf h' base x' (l++Zbb n)→Upd (fun k=>base≤k) h h'→sz h≤sz h'→K x' h'):Yu x n K h:=by
  unfold Yu XH
  have go:∀ (new:BL) (cells:List Value) (m:Nat) (K':Sl→HP),Zbb n=new→cells=new.map bv→m=new.length→(∀ x' h',K' x' h'↔K x' h') →
      newC h cells 5 fun b h1=>rdS ⟨some ⟨b,0,none⟩,m,m⟩ 1 h1 fun nw=>Fw.app 5 1 1 [.int .u8 0] x m nw h1 K':=by
    intro new cells m K' hu hc hm hK
    have h4:(Zbb n).length≤4:=Zdw n
    rw [hu] at h4
    refine Zte new m hc hm.symm (by omega) fun b h1 hr e1 _=>hr.rd ?_
    have hx:=hb.congr (h':=h1) fun k hk hl=>Ys e1 hl
    have hsz:=e1.size
    refine hx.app (by have:sz h1=h1.size:=rfl;have:sz h=h.size:=rfl;omega) hm rfl (by omega) fun x' h6 hx6 u6 z6=>(hK _ _).2 (hk x' h6 (by rw [hu];exact hx6) ((e1.upd _).trans u6) (by have:sz h1=h1.size:=rfl;have:sz h=h.size:=rfl;omega))
  have w:IntKind.wrap .u32 (n:Int)=n:=Zq7 (by omega) (by omega)
  rw [w]
  refine Zk (fun h1=>?_) fun h1=>?_
  ·refine go [UInt8.ofNat n] _ 1 _ (by unfold Zbb;rw [if_pos (by omega)]) ?_ rfl fun _ _=>Iff.rfl
   rw [w8,show n % 256=n by omega,Zkp (by omega)];rfl
  ·unfold Yf YF
   rw [w]
   refine Za (Zf (Zk (fun h2=>⟨by decide,?_⟩) fun h2=>?_))
   ·refine go [UInt8.ofNat (192+n / 64),UInt8.ofNat (128+n % 64)] _ 2 _ (by unfold Zbb;rw [if_neg (by omega),if_pos (by omega)]) ?_ rfl fun _ _=>Iff.rfl
    rw [ZcX,show ((6:Int))=((6:Nat):Int) from rfl,Zmo (by omega),w8,show n / 2 ^ 6 % 256=n / 64 by omega,ZuY (by omega),Zkp (by omega)];rfl
   ·refine Zo (fun p h'=>h'=h∧p.1=decide (n≤65535)) ?_ ?_
    ·rintro ⟨b,u⟩ h3 ⟨rfl,hb3⟩
     dsimp only at hb3 ⊢
     subst hb3
     refine Zk (fun h4=>⟨by decide,by decide,?_⟩) fun h4=>Zp (by simp;omega) (Zf (Zp (by simp;omega) ⟨by decide,by decide,by decide,?_⟩))
     ·refine go [UInt8.ofNat (224+n / 4096),UInt8.ofNat (128+n / 64 % 64),UInt8.ofNat (128+n % 64)] _ 3 _ (by unfold Zbb;rw [if_neg (by omega),if_neg (by omega),if_pos (by omega)]) ?_ rfl fun _ _=>Iff.rfl
      rw [ZcX,show ((6:Int))=((6:Nat):Int) from rfl,show ((12:Int))=((12:Nat):Int) from rfl,Zmo (k:=12) (by omega),Zmo (k:=6) (by omega),ZcX,w8,show n / 2 ^ 12 % 256=n / 4096 by omega,show n / 2 ^ 6=n / 64 by rfl,ZuX (by omega),Zkp (by omega)];rfl
     ·refine go [UInt8.ofNat (240+n / 262144),UInt8.ofNat (128+n / 4096 % 64),UInt8.ofNat (128+n / 64 % 64),UInt8.ofNat (128+n % 64)] _ 4 _ (by unfold Zbb;rw [if_neg (by omega),if_neg (by omega),if_neg (by omega)]) ?_ rfl fun _ _=>Iff.rfl
      rw [ZcX,show ((6:Int))=((6:Nat):Int) from rfl,show ((12:Int))=((12:Nat):Int) from rfl,show ((18:Int))=((18:Nat):Int) from rfl,Zmo (k:=18) (by omega),Zmo (k:=12) (by omega),Zmo (k:=6) (by omega),ZcX,ZcX,w8,show n / 2 ^ 18 % 256=n / 262144 by omega,show n / 2 ^ 6=n / 64 by rfl,show n / 2 ^ 12=n / 4096 by rfl,ZuW (by omega),Zkp (by omega)];rfl
    ·refine Zf (Zk (fun h5=>⟨rfl,?_⟩) fun h5=>Zp (by simp;omega) (Zf ⟨rfl,?_⟩))
     ·simp;omega
     ·simp;omega
theorem Zek {h:Zc} {B:Nat} {T:TypeId} {out:BL} (hb:Bld h B T out) {n:Nat} (hn:n<1114112) (hsur:n<55296∨57344≤n) {n0:Int} (hn0:n0=n) (hs:out.length<900000000) {K:Int→Value→HP} (hk:∀ i h',Bld h' B T (out++Zbb n)→Upd (fun k=>B≤k) h h'→K i .nilIface h'):Yn (At B) n0 K h:=by
  subst hn0
  unfold Yn Xo
  refine Za (Zhf hb fun h1 x b1 u1 c1 hx z1=>ZW (rL (Zn c1 rfl) (Za (ZW (rL (Zn c1 rfl) ?_)))))
  refine Zhh hx (by have:=b1.lt;omega) hn hsur (by omega) fun x' h6 hx6 u6 z6=>?_
  exact Zlc b1.1 c1 u6 hx6 fun h9 b9 u9 c9=>ZW (rL (Zn c9 rfl) (Za (hk _ h9 b9 (u1.trans u9))))
end Go.Proofs.YtpjbjdheeemdiaaGreatDoor
