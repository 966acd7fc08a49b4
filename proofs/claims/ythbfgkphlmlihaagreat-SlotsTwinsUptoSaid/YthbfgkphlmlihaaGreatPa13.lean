/- System rules: whether one lets pass: one answer for each rule, count, and what is so. -/
import Derived.Test.YthbfgkphlmlihaaGreatPa12
set_option linter.unusedVariables false
set_option linter.unusedSimpArgs false
namespace Go.Proofs.YthbfgkphlmlihaaGreat
open Go Go.Fw
open Nat renaming reduceAdd->Nqa,reduceLT->Nqb,reduceLeDiff->Nqc,reduceEqDiff->Nqd,reduceMul->Nqe
abbrev S5:=Int × Int × Int × Int × Int × Unit
abbrev N7:=Int × Int × Int × Int × Int × Int × Int × Unit
theorem ZnW (a b c:Int):∃ w:Int × Int × Int × Unit,∀ {K:Int × Int × Int × Unit->Zf->Prop} {h:Zf},(∀ h',Ext h h'->K w h')->ZeN a b c K h:=by
  obtain ⟨p,q,_,_,h1⟩:=ZmN a b;obtain ⟨f,i,_,_,j⟩:=ZmN q c;obtain ⟨l,g,_,_,h3⟩:=ZmN p c;refine ⟨(IntKind.wrap .u64 (l+ZrZ f g 0),Zr9 f g 0,i,()),fun {K h} d=>?_⟩;unfold ZeN Zhm;refine ZJ fun s m n z4=>h1 (Za (Za (j (Za (Za (h3 (Za (Za ⟨by decide,Za (Za (Zbe m fun o e r z5=>rI (Zb e rfl) (rI (Zb e rfl) (rI (Zb e rfl) (d o (n.then r fun k d=>by subst d;exact Aqo _))))))⟩))))))))
def ZBO:List Int->List Int->Int
  | x::l,y::m=>if x<y then -1 else if x>y then 1 else ZBO l m
  | _,_=>0
theorem ZvN {x y:Int} {K:Int->Zf->Prop} {h:Zf} (a:K (if x<y then -1 else if x>y then 1 else 0) h):Za6 x y K h:=by
  unfold Za6 Zc2 Zd6 Zem;refine Za (Zc (Zc (Zc (Zc (Zi (by simp) (Zi (by simp) (Zn (fun q=>Za ?_) fun q=>Zn (fun b=>Za ?_) fun b=>Za ?_)))))))
  ·rw [if_pos q] at a;exact a
  ·rw [if_neg q,if_pos b] at a;exact a
  ·rw [if_neg q,if_neg b] at a;exact a
theorem Zsf {h:Zf} {s t:Sl} {l m:List Int} (hs:Row h s 1 (l.map (Value.int .u64))) (e:Row h t 1 (m.map (Value.int .u64))) (hl:l.length=m.length) {K:Int->Zf->Prop} (b:K (ZBO l m) h):Y5 s t K h:=by
  unfold Y5 XO;have r:s.len=l.length:=by have:=hs.len;simp at this;omega
  have u:t.len=m.length:=by have:=e.len;simp at this;omega
  have f:=hs.big;have g:=hs.cap;refine Za (Zbd (fun (st:Int × Unit) j=>∃ i:Nat,st=((i:Int),())/\i<=l.length/\j=h/\ZBO (l.drop i) (m.drop i)=ZBO l m) (fun st _=>(l.length - st.1).toNat) ⟨0,rfl,Ayg _,rfl,rfl⟩ ?_);rintro _ j ⟨i,rfl,hi,rfl,a⟩ Q w;dsimp only;refine Zn (fun q=>?_) fun q=>?_
  ·have h1:l[i]?=some l[i]:=Axy (by omega)
   have k:m[i]?=some m[i]:=Axy (by omega);have d1:l.drop i=l[i]::l.drop (i+1):=Ayo (by omega);have d2:m.drop i=m[i]::m.drop (i+1):=Ayo (by omega);rw [d1,d2] at a;generalize l[i]=x at h1 a;generalize m[i]=y at k a;refine hs.idx (n:=i) (v:=Value.int .u64 x) rfl (by rw [Awy,h1];rfl) fun z A _ c=>⟨x,c,Za (Za (Zi (decide_eq_false (by omega)) ?_))⟩;refine e.idx (n:=i) (v:=Value.int .u64 y) rfl (by rw [Awy,k];rfl) fun B C _ d=>⟨y,d,Za (ZvN (Za ?_))⟩;have hd:ZBO (x::l.drop (i+1)) (y::m.drop (i+1))=if x<y then -1 else if x>y then 1 else ZBO (l.drop (i+1)) (m.drop (i+1)):=rfl
   rw [hd] at a
   by_cases o:x<y
   ·rw [if_pos o] at a ⊢
    rw [<- a] at b;exact Zl rfl (Za b)
   ·rw [if_neg o] at a ⊢
    by_cases p:x>y
    ·rw [if_pos p] at a ⊢
     rw [<- a] at b;exact Zl rfl (Za b)
    ·rw [if_neg p] at a ⊢
     refine Zi rfl ?_;rw [wrS (show i<l.length by omega) (by omega)];exact w _ _ ⟨i+1,rfl,by omega,rfl,a⟩ (by show ((l.length:Int) - ((i+1:Nat):Int)).toNat<((l.length:Int) - ((i:Nat):Int)).toNat;omega)
  ·have h1:l.drop i=[]:=Ayq (by omega)
   rw [h1] at a;rw [<- a] at b;exact Zi (decide_eq_false (by omega)) (Za b)
theorem Zl8 {n:Int} {K:Int->Zf->Prop} {h:Zf} (a:K (IntKind.wrap .u64 (Zih n 0)) h):ZhB n K h:=by
  unfold ZhB ZjQ;exact Za (Za a)
theorem ZOA {b:Nat} {K:Sl->Prop} (a:K ⟨some ⟨b,0,none⟩,3,3⟩):slc (some ⟨b,0,none⟩) 3 1 0 3 3 K:=⟨by decide,by decide,by decide,by decide,a⟩
theorem ZvV (threads most least:Int):∃ r:Bool,∀ {K:Bool->Zf->Prop} {h:Zf},(∀ h',Ext h h'->K r h')->ZcT threads most least K h:=by
  by_cases q:threads<=1
  ·refine ⟨false,fun {K h} a=>?_⟩
   unfold ZcT Zfg;exact Zl (decide_eq_true q) (a h (Ext.refl _))
  obtain ⟨w,hw⟩:=ZnW (IntKind.wrap .u64 (Zih threads 0)) 1000000 1;obtain ⟨x,j⟩:=ZnW (IntKind.wrap .u64 (Zih most 0)) 10 (IntKind.wrap .u64 (Zih least 0));refine ⟨decide (ZBO [w.1,w.2.1,w.2.2.1] [x.1,x.2.1,x.2.2.1]>0),fun {K h} a=>?_⟩;unfold ZcT Zfg;refine Zi (decide_eq_false q) (Zl8 (hw fun h1 d=>ZJ fun o p s B=>Zbe p fun h3 e t z3=>Zl8 (Zl8 (j fun u b=>ZJ fun C v f z5=>Zbe v fun g y i z6=>ZOA (ZOA ?_)))));have z:Ext h h3:=(d.trans s).then t fun k a=>by subst a;exact d.size
  have c:=YZ (Zj (Zj e b) f) i (by have:=Zp e;have:sz h3<=u.size:=b.size;have:sz h3=sz o:=z3;omega);have A:Ext h g:=z.trans ((b.trans f).then i fun k a=>by subst a;exact b.size);refine ⟨(ZBO [w.1,w.2.1,w.2.2.1] [x.1,x.2.1,x.2.2.1],()),Zsf (l:=[w.1,w.2.1,w.2.2.1]) (m:=[x.1,x.2.1,x.2.2.1]) (ZBx (k:=3) (n:=1) c rfl (by decide)) (ZBx (k:=3) (n:=1) y rfl (by decide)) rfl ⟨rfl,rfl⟩,Zc (a g A)⟩
def Zmz (a b c:Int):Bool:=if c = -1 then false else decide (a>IntKind.wrap .i64 (c - b))
theorem Zif {a b c:Int} {K:Bool->Zf->Prop} {h:Zf} (d:K (Zmz a b c) h):ZeO a b c K h:=by
  unfold ZeO ZiX;unfold Zmz at d;refine ZfO (fun q=>Zc ?_) fun q=>?_
  ·rw [if_neg q] at d;exact d
  ·rw [if_pos q] at d;exact d
def ZH5 (r:S5):List Int:=[r.1,r.2.1,r.2.2.1,r.2.2.2.1,r.2.2.2.2.1]
def ZNL (r:S5):Int:=if (ZH5 r).all (fun n=>inB n (-1) 1099511627776)=true then 0 else 33
theorem Zrq {r:S5} {K:Int->Zf->Prop} {h:Zf} (a:∀ h',Ext h h'->K (ZNL r) h'):Zba r K h:=by
  unfold Zba ZfQ;unfold ZNL at a;refine ZJ fun h1 c1 f t=>Za (rI (Zb c1 rfl) (rI (Zb c1 rfl) (rI (Zb c1 rfl) (rI (Zb c1 rfl) (rI (Zb c1 rfl) (ZJ fun g o j u=>?_))))));have m:Row g ⟨some ⟨h1.size,0,none⟩,5,5⟩ 1 ((ZH5 r).map iv):=ZBx (k:=5) (n:=1) o rfl (by decide);have hl:(ZH5 r).length=5:=rfl;generalize ZH5 r=l at a m hl;refine Zbd (fun (st:Int × Unit) b=>∃ i:Nat,st=((i:Int),())/\i<=5/\b=g/\(l.take i).all (fun n=>inB n (-1) 1099511627776)=true) (fun st _=>(5 - st.1).toNat) ⟨0,rfl,by decide,rfl,rfl⟩ ?_;rintro _ b ⟨i,rfl,hi,rfl,d⟩ Q p;dsimp only;refine Zn (fun q=>?_) fun q=>?_
  ·have h1:l[i]?=some l[i]:=Axy (by omega)
   generalize l[i]=x at h1;refine m.idx (n:=i) (v:=iv x) rfl (by rw [Awy,h1];rfl) fun w y _ e=>⟨x,e,Za (YX ⟨fun c=>Za ?_,fun c=>?_⟩)⟩
   ·have:¬ (l.all (fun n=>inB n (-1) 1099511627776)=true):=fun s=>by
      have:=Axb.1 s x (Axo h1);rw [this] at c;cases c
    rw [if_neg this] at a;exact a b (f.trans j)
   ·rw [wrS (show i<5 by omega) (by decide)]
    refine p _ _ ⟨i+1,rfl,by omega,rfl,?_⟩ (by show ((5:Int) - ((i+1:Nat):Int)).toNat<((5:Int) - ((i:Nat):Int)).toNat;omega);rw [Aym,h1,Ayr,d];simpa using c
  ·rw [Awd (by omega)] at d
   rw [if_pos d] at a;exact Za (a b (f.trans j))
def ZNT (w:N7):List Int:=[w.1,w.2.1,w.2.2.1,w.2.2.2.1,w.2.2.2.2.1,w.2.2.2.2.2.1,w.2.2.2.2.2.2.1]
def ZH9 (n:Int):Bool:=if n<0 then true else decide (n>4611686018427387904)
theorem ZEb (x:Int):[iv x].length=1:=rfl
theorem ZN8 (l:List Int):l.flatMap (fun x=>[iv x])=l.map iv:=by induction l with
  | nil=>rfl
  | cons a l b=>rw [Aye,b];rfl
theorem Zqv {w:N7} {K:Bool->Zf->Prop} {h:Zf} (d:∀ h',Ext h h'->K (!decide (ixV ZH9 (ZNT w)>=0)) h'):Zdf w K h:=by
  unfold Zdf ZfE Yt Yv YD YE;refine ZJ fun h1 c1 e t=>rI (Zb c1 rfl) (rI (Zb c1 rfl) (rI (Zb c1 rfl) (rI (Zb c1 rfl) (rI (Zb c1 rfl) (rI (Zb c1 rfl) (rI (Zb c1 rfl) (ZJ fun f g j u=>?_)))))));have l:Row f ⟨some ⟨h1.size,0,none⟩,7,7⟩ 1 ((ZNT w).flatMap fun x=>[iv x]):=by rw [ZN8];exact ZBx (k:=7) (n:=1) g rfl (by decide)
  refine Zj9 ZEb l (by decide) (p:=ZH9) (tst:=fun Q b o h3=>ldI h3 b o .i64 fun t4=>ZbN t4 Q h3) ?_ fun h3 m=>Zc (Zc (d h3 ((e.trans j).trans m)));intro i a b o r Q v he c s;refine rI (c 0 _ rfl) ?_;have:=s r he;unfold ZH9 at this;unfold ZbN Zel;refine Zn (fun q=>?_) fun q=>Zc ?_
  ·rw [if_pos q] at this;exact this
  ·rw [if_neg q] at this;exact this
theorem ZEv (r:S5) (n:Int) (w:N7):∃ b:Bool,∀ {K:Bool->Zf->Prop} {h:Zf},(∀ h',Ext h h'->K b h')->Ziy r n w K h:=by
  refine ⟨if ZNL r=0/\n>=1/\n<=1099511627776 then !decide (ixV ZH9 (ZNT w)>=0) else false,fun {K h} c=>?_⟩;unfold Ziy ZkR;refine ZJ fun h1 c1 g o=>ZJ fun p k a s=>rI (Zb (Zj c1 a) rfl) (rI (Zb (Zj c1 a) rfl) (rI (Zb (Zj c1 a) rfl) (rI (Zb (Zj c1 a) rfl) (rI (Zb (Zj c1 a) rfl) (Zrq fun h3 e=>Z5 (fun q=>Zn (fun i=>Zn (fun j=>?_) fun j=>?_) fun i=>?_) fun q=>?_)))))
  ·have d:=Zj k e
   rw [if_pos ⟨q,i,j⟩] at c;exact rI (Zb d rfl) (rI (Zb d rfl) (rI (Zb d rfl) (rI (Zb d rfl) (rI (Zb d rfl) (rI (Zb d rfl) (rI (Zb d rfl) (Zqv fun l m=>Zc (c l (((g.trans a).trans e).trans m)))))))))
  ·rw [if_neg fun f=>j f.2.2] at c;exact c h3 ((g.trans a).trans e)
  ·rw [if_neg fun f=>i f.2.1] at c;exact c h3 ((g.trans a).trans e)
  ·rw [if_neg fun f=>q f.1] at c;exact c h3 ((g.trans a).trans e)
def Zyb (r:S5) (n:Int) (w:N7) (a:Bool):ByteArray:=if Zmz w.1 n r.1=true then ByteArray.mk #[113,112,115] else if Zmz w.2.1 1 r.2.1=true then ByteArray.mk #[116,104,114,101,97,100,115] else if Zmz w.2.2.1 0 r.2.2.1=true then ByteArray.mk #[114,116]
  else if Zmz w.2.2.2.1 0 r.2.2.2.1=true/\a=true then ByteArray.mk #[108,111,97,100] else if Zmz w.2.2.2.2.1 0 r.2.2.2.2.1=true then ByteArray.mk #[99,112,117] else ByteArray.mk #[]
theorem ZxZ (r:S5) (n:Int) (w:N7):∃ b:ByteArray,∀ {K:ByteArray->Zf->Prop} {h:Zf},(∀ h',Ext h h'->K b h')->ZgK r n w K h:=by
  obtain ⟨l,m⟩:=ZvV w.2.1 w.2.2.2.2.2.1 w.2.2.2.2.2.2.1;refine ⟨Zyb r n w l,fun {K h} y=>?_⟩;unfold ZgK ZiW;refine ZJ fun h1 c1 z B=>ZJ fun s e t C=>?_;have d:=Zj c1 t;have fin:∀ {a:Zf} {b:ByteArray},Ext s a->Zyb r n w l=b->K b a:=fun {a b} g A=>A▸y _ ((z.trans t).trans g);have c:∀ {b:Bool},b=false->¬ b=true:=fun a u=>by rw [a] at u;cases u
  have tail:∀ {a:Zf},Ext s a->(Zyb r n w l=if Zmz w.2.2.2.2.1 0 r.2.2.2.2.1=true then ByteArray.mk #[99,112,117] else ByteArray.mk #[])->ldI a h1.size (0+4) .i64 fun t28=>ldI a h.size (0+4) .i64 fun t29=>ZeO t28 0 t29 (fun t30 j=>Zq t30 fun t32=>Zm t32 (K (ByteArray.mk #[99,112,117]) j) (K (ByteArray.mk #[]) j)) a :=
    fun {a} g v=>rI (Zb (Zj e g) rfl) (rI (Zb (Zj d g) rfl) (Zif (Zc ⟨fun q=>fin g (v.trans (if_pos q)),fun q=>fin g (v.trans (if_neg (c q)))⟩)))
  refine rI (Zb e rfl) (rI (Zb d rfl) (Zif (Zc ⟨fun f=>fin (Ext.refl _) (if_pos f),fun f=>?_⟩)));refine rI (Zb e rfl) (rI (Zb d rfl) (Zif (Zc ⟨fun i=>fin (Ext.refl _) ((if_neg (c f)).trans (if_pos i)),fun i=>?_⟩)));refine rI (Zb e rfl) (rI (Zb d rfl) (Zif (Zc ⟨fun k=>fin (Ext.refl _) ((if_neg (c f)).trans ((if_neg (c i)).trans (if_pos k))),fun k=>?_⟩)));refine rI (Zb e rfl) (rI (Zb d rfl) (Zif ⟨fun o=>?_,fun o=>tail (Ext.refl _) ((if_neg (c f)).trans ((if_neg (c i)).trans ((if_neg (c k)).trans (if_neg fun a=>c o a.1))))⟩));refine rI (Zb e rfl) (rI (Zb e rfl) (rI (Zb e rfl) (m fun h3 x=>Zc ⟨fun p=>fin x ((if_neg (c f)).trans ((if_neg (c i)).trans ((if_neg (c k)).trans (if_pos ⟨o,p⟩)))),fun p=>tail x ((if_neg (c f)).trans ((if_neg (c i)).trans ((if_neg (c k)).trans (if_neg fun a=>c p a.2))))⟩)))
theorem ZpQ (r:S5) (n:Int) (w:N7):∃ b:Bool,∀ {K:Bool->Zf->Prop} {h:Zf},(∀ h',Ext h h'->K b h')->ZfN r n w K h:=by
  obtain ⟨j,l⟩:=ZEv r n w;obtain ⟨fd,m⟩:=ZxZ r n w
  have field:∃ b:ByteArray,∀ {K:ByteArray->Zf->Prop} {h:Zf},(∀ h',Ext h h'->K b h')->ZgL r n w K h:=by
    refine ⟨if j=true then fd else ByteArray.mk #[102,111,114,109],fun {K h} f=>?_⟩;unfold ZgL ZiY;refine ZJ fun h1 c1 k p=>ZJ fun s c g t=>?_;have a:=Zj c1 g;refine rI (Zb a rfl) (rI (Zb a rfl) (rI (Zb a rfl) (rI (Zb a rfl) (rI (Zb a rfl) (rI (Zb c rfl) (rI (Zb c rfl) (rI (Zb c rfl) (rI (Zb c rfl) (rI (Zb c rfl) (rI (Zb c rfl) (rI (Zb c rfl) (l fun h3 i=>⟨fun q=>?_,fun q=>?_⟩))))))))))))
    ·have o:¬ j=true:=fun u=>by rw [u] at q;cases q
     rw [if_neg o] at f;exact f h3 ((k.trans g).trans i)
    ·have o:j=true:=by cases j<;>simp_all
     rw [if_pos o] at f;have d:=Zj a i;have e:=Zj c i;exact rI (Zb d rfl) (rI (Zb d rfl) (rI (Zb d rfl) (rI (Zb d rfl) (rI (Zb d rfl) (rI (Zb e rfl) (rI (Zb e rfl) (rI (Zb e rfl) (rI (Zb e rfl) (rI (Zb e rfl) (rI (Zb e rfl) (rI (Zb e rfl) (m fun v x=>f v (((k.trans g).trans i).trans x)))))))))))))
  obtain ⟨b,y⟩:=field;refine ⟨Yp b (ByteArray.mk #[]),fun {K h} f=>?_⟩;unfold ZfN Zh0;refine ZJ fun h1 c1 k p=>ZJ fun s c g t=>?_;have a:=Zj c1 g;exact rI (Zb a rfl) (rI (Zb a rfl) (rI (Zb a rfl) (rI (Zb a rfl) (rI (Zb a rfl) (rI (Zb c rfl) (rI (Zb c rfl) (rI (Zb c rfl) (rI (Zb c rfl) (rI (Zb c rfl) (rI (Zb c rfl) (rI (Zb c rfl) (y fun h3 i=>Zc (f h3 ((k.trans g).trans i))))))))))))))
end Go.Proofs.YthbfgkphlmlihaaGreat
namespace Go.Js
abbrev Zx (l:List UInt8):ByteArray:=⟨l.toArray⟩
end Go.Js
namespace Go.Js
open Go Go.Fw Go.Js
abbrev BL:=List UInt8
end Go.Js
namespace Go.Js.JL
open Go Go.Fw Go.Js
end Go.Js.JL
namespace Go.Js
open Go Go.Fw Go.Js
end Go.Js
namespace Go.Proofs.YthbfgkphlmlihaaGreat.Rw
open Go Go.Fw Go.Js
theorem ZJ {h:Zf} {cells:List Value} {t:TypeId} {K:Nat->Zf->Prop} (a:∀ h1,h1[h.size]?=some (.cells cells.toArray t (0,0))->Ext h h1->h1.size=h.size+1->K h.size h1):newC h cells t K :=
  Zpd (a _ Zc6 (Ext.push _ _) (by simp))
theorem Zg {b o:Nat} {K:Nat->Nat->Prop} (a:K b o):Ze (some ⟨b,o,none⟩) K:=⟨b,o,rfl,a⟩
theorem Zb {h:Zf} {b o:Nat} {l:List Value} {e:TypeId} {f:Nat × Nat} {v:Value} (a:obj h b=some (.cells l.toArray e f)) (hv:l[o]?=some v):ZA o (obj h b)=some v:=by rw [a,Zit];exact hv
theorem rI {h:Zf} {b o:Nat} {k:IntKind} {n:Int} {K:Int->Prop} (a:ZA o (obj h b)=some (.int k n)) (c:K n):ldI h b o k K:=by rw [ZBH a];exact c
theorem rS {h:Zf} {b o:Nat} {n:ByteArray} {K:ByteArray->Prop} (a:ZA o (obj h b)=some (.string n)) (c:K n):ldS h b o K:=by rw [ZBF a];exact c
theorem rL {h:Zf} {b o:Nat} {s:Sl} {K:Sl->Prop} (a:ZA o (obj h b)=some (slV s)) (c:K s):ldL h b o K:=by cases s;exact (ZBG a).mpr c
theorem Zbf {h:Zf} {b o:Nat} {v:Value} {K:Zf->Prop} {l:List Value} {e:TypeId} (a:obj h b=some (.cells l.toArray e (0,0))) (ho:o<l.length) (hv:Zr v=true)
    (c:∀ h',obj h' b=some (.cells (l.set o v).toArray e (0,0))->Upd (· = b) h h'->sz h'=sz h->K h'):st h b o v K:=by
  refine ⟨⟨l[o],by rw [Zkd a];simp [ho]⟩,?_,hv,?_⟩
  ·unfold Zf.froz;rw [show h[b]?=obj h b from rfl,a];simp
  ·refine c _ ?_ (Upd.put h b o v) Zj3
   have:=Znp (v:=v) (o:=o) a;rw [show obj (h.put b o v) b=(h.put b o v)[b]? from rfl,this];simp
structure Ztv (s:ByteArray) (n:Nat) (l:BL):Prop where
  drop:s.data.toList.drop n=l
  len:n+l.length=s.size
theorem Ztv.head {s:ByteArray} {n:Nat} {c:UInt8} {l:BL} (h:Ztv s n (c::l)):s[n]?=some c:=by
  have h1:s.data.toList[n]?=some c:=by
    have:=congrArg (fun x=>x[0]?) h.drop;simp only [Aqg] at this;simpa using this
  have a:n<s.size:=by have:=h.len;simp at this;omega
  rw [Axp] at h1;rw [getElem?_pos s n a];rw [getElem?_pos s.data n a] at h1;exact h1
theorem Ztv.dropK {s:ByteArray} {n:Nat} {l:BL} (h:Ztv s n l) {k:Nat} (a:k<=l.length):Ztv s (n+k) (l.drop k):=by
  refine ⟨?_,by have:=h.len;simp;omega⟩;rw [<- h.drop,Axn]
abbrev At (R:Nat):Option Addr:=some ⟨R,0,none⟩
theorem UT {S T:Nat->Prop} {h0 h h':Zf} (a:Upd S h0 h) (u:Upd T h h') (hT:∀ k,T k->S k\/sz h0<=k):Upd S h0 h' :=
  ⟨Aqp a.size u.size,fun k b hs=>(u.old k (Aqq b a.size) fun t=>(hT k t).elim hs fun c=>by have:sz h0=h0.size:=rfl;omega).trans (a.old k b hs)⟩
theorem UN {T:Nat->Prop} {h h1 h':Zf} (e:Ext h h1) (u:Upd T h1 h'):Upd T h h':=UT (e.upd T) u fun _ t=> .inl t
theorem ZqE {a b:Int} {A B:Prop} (h1:a≠b->A) (c:a=b->B):Zm (a !=b) A B:=⟨fun e=>h1 (by simpa using e),fun e=>c (by simpa using e)⟩
theorem ZhD {a b:Int} {A B:Prop} (h1:a=b->A) (c:a≠b->B):Zm (a ==b) A B:=⟨fun e=>h1 (by simpa using e),fun e=>c (by simpa using e)⟩
end Go.Proofs.YthbfgkphlmlihaaGreat.Rw
namespace Go.Js
open Go Go.Fw Go.Js
end Go.Js
namespace Go.Proofs.YthbfgkphlmlihaaGreat.Rw
open Go Go.Fw Go.Js
theorem ZgY (a b:ByteArray):Yp a b=decide (a=b):=by
  unfold Yp;rw [ByteArray.toList_eq,ByteArray.toList_eq]
  by_cases h:a=b
  ·rw [h];simp
  ·rw [decide_eq_false h,beq_eq_false_iff_ne]
   intro e;exact h (ByteArray.ext (Array.toList_inj.1 e))
theorem ZDD (l:BL):(Zx l).size=l.length:=rfl
abbrev sV (t:BL):Value:= .string (Zx t)
def inS (S:Nat->Prop) (x:Sl):Prop:=x.len≠0->∀ b,x.blk=some b->S b
theorem inS.mono {S a:Nat->Prop} {x:Sl} (h:inS S x) (hs:∀ b,S b->a b):inS a x:=fun hl b c=>hs b (h hl b c)
theorem ZgC {h h':Zf} {S:Nat->Prop} {x:Sl} {n:Nat} {vs:List Value} (c:Row h x n vs) (hi:inS S x) (he:∀ b,S b->b<sz h->obj h' b=obj h b):Row h' x n vs:=by
  refine c.congr fun b o d a e=>he b (hi ?_ b (by simp [Sl.blk,d])) e;intro h0;exact a (c.nil_of h0)
theorem ZGx {h:Zf} {b n size:Nat} {l:List Value} {t:TypeId} {f:Nat × Nat} {K:List Value->Prop} (c:obj h b=some (.cells l.toArray t f)) (hl:l.length=n*size) (a:K l):rdS ⟨some ⟨b,0,none⟩,n,n⟩ size h K :=
  .inr ⟨b,0,l,rfl,hl,Zf8 c (fun i v hi=>by simpa using hi),a⟩
theorem ZNM {h:Zf} {b o:Nat} {vs:List Value} {K:Zf->Prop} {l:List Value} {e:TypeId} (a:obj h b=some (.cells l.toArray e (0,0))) (ho:o+vs.length<=l.length) (hv:vs.all Zr=true)
    (c:∀ h',obj h' b=some (.cells (ZeR o vs l).toArray e (0,0))->Upd (· = b) h h'->sz h'=sz h->K h'):sts h b o vs K:=by
  rw [ZoW (by rw [a,Zi0];simpa using ho) hv];exact c _ (by rw [Zle,if_pos rfl,a,Zey]) (Upd.puts h b o vs) Ziq
end Go.Proofs.YthbfgkphlmlihaaGreat.Rw
namespace Go.Js.JL
open Go Go.Fw Go.Js
end Go.Js.JL
namespace Go.Proofs.YthbfgkphlmlihaaGreat.Rw
open Go Go.Fw Go.Js
theorem Zs2 {h:Zf} {a:List BL} {x:Sl} (c:Row h x 1 (a.map sV)) {i:Nat} {t:BL} (d:a[i]?=some t) {n:Int} (e:n=i) {K:ByteArray->Prop} (f:K (Zx t)):YR x.ptr x.len n 1 fun b o=>ldS h b o K :=
  Row.idx c e (v:=sV t) (by simp [d]) fun b o _ g=>⟨_,g,f⟩
theorem Zlh {h:Zf} {a:List BL} {x:Sl} (b:Row h x 1 (a.map sV)):x.len=a.length:=by have:=b.len;simp at this;omega
theorem Zyk {a b:BL}:Zx a=Zx b↔a=b:=by
  constructor
  ·intro h
   have:=congrArg (fun b:ByteArray=>b.data.toList) h;simpa [Zx] using this
  ·rintro rfl;rfl
theorem ZgZ (a b:BL):Yp (Zx a) (Zx b)=decide (a=b):=by
  rw [ZgY];exact decide_eq_decide.2 Zyk
theorem rV {h:Zf} {b o:Nat} {n:Value} {K:Value->Prop} (a:ZA o (obj h b)=some n) (c:K n):ldV h b o K:=by rw [ZBE a];exact c
theorem Zkr {h:Zf} {x:Sl} {n:Nat} {vs:List Value} (c:Row h x n vs) (i:0<n):inS (fun b=>b<sz h) x:=by
  intro h0 b a
  rcases c.at_ with hz | ⟨d,o,f,g⟩
  ·exact absurd hz h0
  ·have:d=b:=by unfold Sl.blk at a;rw [f] at a;simpa using a
   subst this;refine ZxW g fun e=>?_;have hl:=c.len;rw [e] at hl;have:x.len*n≠0:=Nat.mul_ne_zero h0 (by omega);exact this (by rw [<- hl];rfl)
theorem ZAS {α:Type} {l:List α} {i:Nat} {x:α} (h:l[i]?=some x):i<l.length:=(Ayh.1 h).1
theorem Zmh {α:Type} {f:α->List Value} {n:Nat} (b:∀ a,(f a).length=n):∀ l:List α,(l.flatMap f).length=l.length*n
  | []=>by simp
  | a::l=>by rw [Aye,Awe,b,Zmh b l,Aqj,Aww];omega
theorem Zn4 {α:Type} {f:α->List Value} {n:Nat} (b:∀ a,(f a).length=n):∀ (l:List α) (i m:Nat) (a:α),l[i]?=some a->m<n->(l.flatMap f)[i*n+m]?=(f a)[m]?
  | [],i,m,a,h,_=>by simp at h
  | x::l,0,m,a,h,hm=>by
    simp at h;subst h;rw [Aye,Aqs,Awb,Awu (by rw [b];exact hm)]
  | x::l,i+1,m,a,h,hm=>by
    rw [Aye,Awv (by rw [b,Aww];omega),b,show (i+1)*n+m - n=i*n+m by rw [Aww];omega];exact Zn4 b l i m a (by simpa using h) hm
end Go.Proofs.YthbfgkphlmlihaaGreat.Rw
namespace Go.Js
open Go Go.Fw Go.Js
def Zlm (t:BL):List BL->Nat->Option Nat
  | [],_=>none
  | w::ws,i=>if w=t then some i else Zlm t ws (i+1)
end Go.Js
namespace Go.Proofs.YthbfgkphlmlihaaGreat.Rw
open Go Go.Fw Go.Js
theorem ZG7 (t:BL):∀ (ws:List BL) (i j:Nat),Zlm t (ws.drop j) (i+j)=match ws.drop j with
    | []=>none
    | w::_=>if w=t then some (i+j) else Zlm t (ws.drop (j+1)) (i+(j+1)):=by
  intro ws i j
  cases hd:ws.drop j with
  | nil=>rfl
  | cons w r =>
    have e:ws.drop (j+1)=r:=by rw [<- Axn,hd];rfl
    simp only [Zlm,e];rfl
theorem ZAR {h:Zf} {ws:List BL} {x:Sl} (a:Row h x 1 (ws.map sV)) {t:BL} {K:Int->HP} (b:K (match Zlm t ws 0 with
    | some i=>(i:Int)
    | none=> -1) h):Xh x (Zx t) K h:=by
  unfold Xh;have hlen:=Zlh a;have big:=a.big;have cap:=a.cap;refine Za (YP (fun p h'=>h'=h/\∃ i:Nat,p.1=i/\i<=ws.length/\Zlm t ws 0=Zlm t (ws.drop i) (0+i)) (fun p _=>(ws.length - p.1).toNat) ⟨rfl,0,rfl,Ayg _,rfl⟩ ?_);rintro ⟨i0,u⟩ h3 ⟨rfl,i,hi,hle,d⟩;dsimp only at hi ⊢;subst hi;refine Zn (fun f=>?_) fun g=>?_
  ·have hi:i<ws.length:=by omega
   obtain ⟨w,hw⟩:∃ w,ws[i]?=some w:=⟨ws[i],Axy hi⟩;refine Za (Zs2 a hw rfl ?_);have hd:ws.drop i=w::ws.drop (i+1):=by rw [Ayo hi];congr 1;exact (Ayh.1 hw).2
   rw [ZgZ];have c:=ZG7 t ws 0 i;rw [hd] at c;simp only at c
   by_cases he:t=w
   ·rw [decide_eq_true he]
    refine Zl rfl (Za ?_);rw [d,hd,c,if_pos he.symm] at b;simpa using b
   ·rw [decide_eq_false he]
    refine Zi rfl ?_;rw [Yr (by omega) (by omega)];refine ⟨⟨rfl,i+1,rfl,by omega,?_⟩,by omega⟩;rw [d,hd,c,if_neg fun e=>he e.symm]
  ·refine Za ?_
   have:i=ws.length:=by omega
   subst this;rw [d,List.drop_length] at b;exact b
theorem ZxS {h:Zf} {ws:List BL} {x:Sl} (a:Row h x 1 (ws.map sV)) {t:BL} {K:Int->HP} (b:K (match Zlm t ws 0 with
    | some i=>(i:Int)
    | none=> -1) h):X5 x (Zx t) K h:=ZAR a b
theorem ZrH {t:BL}:∀ {ws:List BL} {i:Nat},(Zlm t ws i).isSome=true↔t∈ws
  | [],i=>by simp [Zlm]
  | w::ws,i=>by
    simp only [Zlm];split
    ·rename_i h;simp [h]
    ·rename_i h
     rw [ZrH,Awr];exact ⟨.inr,fun a=>a.resolve_left fun e=>h e.symm⟩
theorem Zoa {h:Zf} {ws:List BL} {x:Sl} (b:Row h x 1 (ws.map sV)) {t:BL} {K:Bool->HP} (c:K (decide (t∈ws)) h):YB x (Zx t) K h:=by
  unfold YB XC;refine ZxS b ?_
  show Zq (decide ((match Zlm t ws 0 with
    | some i=>(i:Int)
    | none=> -1)>=0)) fun t2=>K t2 h
  have:decide ((match Zlm t ws 0 with
    | some i=>(i:Int)
    | none=> -1)>=0)=decide (t∈ws):=by
    have hm:=ZrH (t:=t) (ws:=ws) (i:=0)
    cases a:Zlm t ws 0 with
    | none=>rw [a] at hm;simp only [Awf,Aqc,false_iff] at hm;simp [hm]
    | some i=>rw [a] at hm;simp only [Option.isSome_some,true_iff] at hm;simp [hm]
  rw [this];exact c
def Zhr (l:List (BL × Int)):List Value:=l.flatMap fun p=>[sV p.1,iv p.2]
def Box (h:Zf) (c:Nat) (v:Value):Prop:=∃ T,obj h c=some (.cells [v].toArray T (0,0))
theorem Box.ext {h h':Zf} {c:Nat} {v:Value} (b:Box h c v) (u:Ext h h'):Box h' c v:=let ⟨T,b⟩:=b;⟨T,Zj b u⟩
theorem Box.lt {h:Zf} {c:Nat} {v:Value} (b:Box h c v):c<sz h:=let ⟨_,b⟩:=b;Zp b
theorem Box.upd {U:Nat->Prop} {h h':Zf} {c:Nat} {v:Value} (b:Box h c v) (u:Upd U h h') (a:¬ U c):Box h' c v:=let ⟨T,b⟩:=b;⟨T,YZ b u a⟩
end Go.Proofs.YthbfgkphlmlihaaGreat.Rw
namespace Go.Js
open Go Go.Fw Go.Js
structure FlowP where
  (res org:BL) (thr:Bool) (cnt:Int) (strat:Nat) (ref:BL) (shape:Nat) (warm queue:Int) (clu:Bool) (id:Int) (fb:Bool)
deriving DecidableEq
structure YS where
  (res:BL) (grade:Nat) (cnt slow least window recover:Int)
deriving DecidableEq
structure Zev where
  (res:BL) (index cnt secs:Int) (items:List (BL × Int))
deriving DecidableEq
structure ZaD where
  (qps threads rt load cpu:Int)
deriving DecidableEq
structure ZbC where
  (res:BL) (white:Bool) (origins:List BL)
deriving DecidableEq
structure RulesP where
  (fl:List FlowP) (br:List YS) (ho:List Zev) (sy:List ZaD) (li:List ZbC)
deriving DecidableEq
def ZDW (c:UInt8):Bool:=decide (33<=c.toNat)&&decide (c.toNat<=126)
def ZbV (l:BL):Bool:=l.all ZDW&&(decide (1<=l.length)&&decide (l.length<=64))
def inJ (n lo hi:Int):Bool:=decide (lo<=n)&&decide (n<=hi)
def onlyIf (asked:Bool) (n lo hi:Int):Bool:=if asked then inJ n lo hi else decide (n=0)
def Zh6:List BL->Bool
  | []=>false
  | a::l=>decide (a∈l)||Zh6 l
def FlowP.names (f:FlowP):Bool:=ZbV f.res&&ZbV f.org&&(if f.strat=1\/f.strat=2 then ZbV f.ref else true)
def FlowP.good (f:FlowP):Bool :=
  inJ f.cnt (if f.shape=0 then 0 else 1) 1099511627776&&(decide (f.strat<=2)&&decide (f.shape<=3))&&(!decide (f.strat=0)||decide (f.ref=[]))&&(!f.thr||decide (f.shape=0) && !f.clu) &&
  (onlyIf (decide (f.shape=1)||decide (f.shape=3)) f.warm 1 3600&&onlyIf (decide (f.shape=2)||decide (f.shape=3)) f.queue 0 3600000000) &&
  (!f.clu||decide (f.strat=0)&&decide (f.shape=0))&&(onlyIf f.clu f.id 1 1099511627776&&(f.clu || !f.fb))
def FlowP.err (f:FlowP):Nat:=if f.names then (if f.good then 0 else 30) else 10
def YS.good (b:YS):Bool :=
  (decide (b.grade<=2)&&inJ b.cnt 0 (if b.grade=2 then 1099511627776 else 1000))&&onlyIf (decide (b.grade=0)) b.slow 1 3600000000 &&
  (inJ b.least 1 1099511627776&&inJ b.window 1000000 120000000)&&inJ b.recover 1000000 3600000000
def YS.err (b:YS):Nat:=if ZbV b.res then (if b.good then 0 else 31) else 10
def Zev.good (b:Zev):Bool :=
  (inJ b.index 0 7&&inJ b.cnt 0 1099511627776)&&(inJ b.secs 1 60&&decide (b.items.length<=32) && !Zh6 (b.items.map (·.1)))&&b.items.all fun p=>decide (p.1.length<=64)&&inJ p.2 0 1099511627776
def Zev.err (b:Zev):Nat:=if ZbV b.res then (if b.good then 0 else 32) else 10
def ZaD.err (b:ZaD):Nat:=if inJ b.qps (-1) 1099511627776&&inJ b.threads (-1) 1099511627776&&inJ b.rt (-1) 1099511627776&&inJ b.load (-1) 1099511627776&&inJ b.cpu (-1) 1099511627776 then 0 else 33
def ZbC.err (b:ZbC):Nat:=if ZbV b.res&&b.origins.all ZbV then (if decide (1<=b.origins.length)&&decide (b.origins.length<=32) && !Zh6 b.origins then 0 else 34) else 10
def Za8 {α:Type} (f:α->Nat):List α->Nat->Option (Nat × Nat)
  | [],_=>none
  | a::l,i=>if f a=0 then Za8 f l (i+1) else some (i,f a)
def RulesP.whereE (r:RulesP):Nat × Nat × Nat :=
  if 256<r.fl.length then (1,0,5) else if 256<r.br.length then (2,0,5) else if 256<r.ho.length then (3,0,5) else if 256<r.sy.length then (4,0,5) else if 256<r.li.length then (5,0,5) else
  match Za8 FlowP.err r.fl 0 with
  | some (i,e)=>(1,i,e)
  | none=>match Za8 YS.err r.br 0 with
    | some (i,e)=>(2,i,e)
    | none=>match Za8 Zev.err r.ho 0 with
      | some (i,e)=>(3,i,e)
      | none=>match Za8 ZaD.err r.sy 0 with
        | some (i,e)=>(4,i,e)
        | none=>match Za8 ZbC.err r.li 0 with
          | some (i,e)=>(5,i,e)
          | none=>(0,0,0)
end Go.Js
namespace Go.Proofs.YthbfgkphlmlihaaGreat.Rw
open Go Go.Fw Go.Js
def i8 (n:Nat):Value:= .int .u8 (n:Int)
def i64 (n:Int):Value:=iv n
def Zfh (f:FlowP):List Value:=[sV f.res,sV f.org,.bool f.thr,i64 f.cnt,i8 f.strat,sV f.ref,i8 f.shape,i64 f.warm,i64 f.queue,.bool f.clu,i64 f.id,.bool f.fb]
def Zdk (f:YS):List Value:=[sV f.res,i8 f.grade,i64 f.cnt,i64 f.slow,i64 f.least,i64 f.window,i64 f.recover]
def ZgX (f:ZaD):List Value:=[i64 f.qps,i64 f.threads,i64 f.rt,i64 f.load,i64 f.cpu]
def Zln (p:Sl × Zev):List Value:=[sV p.2.res,i64 p.2.index,i64 p.2.cnt,i64 p.2.secs,slV p.1]
def Ziz (p:Sl × ZbC):List Value:=[sV p.2.res,.bool p.2.white,slV p.1]
def ZOl (h:Zf) (S:Nat->Prop) (p:Sl × Zev):Prop:=Row h p.1 2 (Zhr p.2.items)/\inS S p.1
def ZyJ (h:Zf) (S:Nat->Prop) (p:Sl × ZbC):Prop:=Row h p.1 1 (p.2.origins.map sV)/\inS S p.1
abbrev VTR:=Sl × Sl × Sl × Sl × Sl × Unit
structure Xe (h:Zf) (S:Nat->Prop) (z:VTR) (r:RulesP):Prop where
  fl:Row h z.1 12 (r.fl.flatMap Zfh)/\inS S z.1
  br:Row h z.2.1 7 (r.br.flatMap Zdk)/\inS S z.2.1
  ho:∃ hp:List (Sl × Zev),hp.map (·.2)=r.ho/\(Row h z.2.2.1 5 (hp.flatMap Zln)/\inS S z.2.2.1)/\∀ p,p∈hp->ZOl h S p
  sy:Row h z.2.2.2.1 5 (r.sy.flatMap ZgX)/\inS S z.2.2.2.1
  li:∃ lp:List (Sl × ZbC),lp.map (·.2)=r.li/\(Row h z.2.2.2.2.1 3 (lp.flatMap Ziz)/\inS S z.2.2.2.2.1)/\∀ p,p∈lp->ZyJ h S p
theorem ZkN {h h':Zf} {S:Nat->Prop} {x:Sl} {n:Nat} {vs:List Value} (r:Row h x n vs/\inS S x) (he:∀ b,S b->b<sz h->obj h' b=obj h b):Row h' x n vs/\inS S x:=⟨ZgC r.1 r.2 he,r.2⟩
theorem Xe.keep {h h':Zf} {S:Nat->Prop} {z:VTR} {r:RulesP} (a:Xe h S z r) (he:∀ b,S b->b<sz h->obj h' b=obj h b):Xe h' S z r:=by
  obtain ⟨c,h1,d,h3⟩:=a.ho;obtain ⟨e,f,g,i⟩:=a.li;exact ⟨ZkN a.fl he,ZkN a.br he,⟨c,h1,ZkN d he,fun p c=>ZkN (h3 p c) he⟩,ZkN a.sy he,⟨e,f,ZkN g he,fun p c=>ZkN (i p c) he⟩⟩
theorem Xe.ext {h h':Zf} {S:Nat->Prop} {z:VTR} {r:RulesP} (a:Xe h S z r) (u:Ext h h'):Xe h' S z r:=a.keep fun b _ hl=>ZG u hl
theorem Xe.mono {h:Zf} {S d:Nat->Prop} {z:VTR} {r:RulesP} (a:Xe h S z r) (hs:∀ b,b<sz h->S b->d b):Xe h d z r:=by
  obtain ⟨c,h1,f,h3⟩:=a.ho;obtain ⟨g,i,j,k⟩:=a.li;have m:∀ {x:Sl} {n:Nat} {vs:List Value},0<n->Row h x n vs/\inS S x->Row h x n vs/\inS d x:=fun {x n vs} l r=>⟨r.1,fun h0 b e=>hs b (Zkr r.1 l h0 b e) (r.2 h0 b e)⟩;exact ⟨m (by decide) a.fl,m (by decide) a.br,⟨c,h1,m (by decide) f,fun p c=>m (by decide) (h3 p c)⟩,m (by decide) a.sy,⟨g,i,m (by decide) j,fun p c=>m (by decide) (k p c)⟩⟩
theorem rBl {h:Zf} {b o:Nat} {n:Bool} {K:Bool->Prop} (a:ZA o (obj h b)=some (.bool n)) (c:K n):ldB h b o K:=by
  unfold ldB;exact ⟨n,by rw [Yo];exact a,c⟩
def ZaJ (f:FlowP):ByteArray × ByteArray × Bool × Int × Int × ByteArray × Int × Int × Int × Bool × Int × Bool × Unit:=(Zx f.res,Zx f.org,f.thr,f.cnt,(f.strat:Int),Zx f.ref,(f.shape:Int),f.warm,f.queue,f.clu,f.id,f.fb,())
def ZBR (f:YS):ByteArray × Int × Int × Int × Int × Int × Int × Unit:=(Zx f.res,(f.grade:Int),f.cnt,f.slow,f.least,f.window,f.recover,())
def ZE6 (x:Sl) (f:Zev):ByteArray × Int × Int × Int × Sl × Unit:=(Zx f.res,f.index,f.cnt,f.secs,x,())
def Zp9 (f:ZaD):Int × Int × Int × Int × Int × Unit:=(f.qps,f.threads,f.rt,f.load,f.cpu,())
def ZGQ (x:Sl) (f:ZbC):ByteArray × Bool × Sl × Unit:=(Zx f.res,f.white,x,())
theorem Zt0 {h:Zf} {base n bytes:Nat} {out:Sl} {vs cells zs:List Value} {T T2:TypeId} {K:Sl->Zf->Prop} (own:Own h base out n vs) (j:cells.length=n) (h1:cells.all Zr=true) (hz:zs.length=n) (d:(out.len+1)*bytes<=140737488355328) (hl:out.len+1<=140737488355328) (e:base<=sz h)
    (g:∀ s' h',Own h' base s' n (vs++cells)->Upd (fun k=>out.blk=some k) h h'->(s'.blk=out.blk\/∃ b,s'.blk=some b/\sz h<=b)->K s' h') :
    newC h cells T2 fun b a=>rdS ⟨some ⟨b,0,none⟩,1,1⟩ n a fun new=>app T n bytes zs out 1 new a K:=by
  refine ZJ fun a i f l=>ZGx i (by omega) ?_;have s2:sz a=a.size:=rfl;have s1:sz h=h.size:=rfl;refine (own.congr fun b _ d _=>ZG f d).app (by omega) h1 hz d hl (show base<=a.size by omega) fun s' h' o _ u c=>g s' h' o (UN f u) ?_
  rcases c with c | c
  ·exact .inl c
  ·exact .inr ⟨_,c,by omega⟩
end Go.Proofs.YthbfgkphlmlihaaGreat.Rw
namespace Go.Js
open Go Go.Fw Go.Js
theorem Zrx {l:List BL}:Zh6 l=false↔l.Nodup:=by
  induction l with
  | nil=>simp [Zh6]
  | cons a l b=>simp [Zh6,Ayp,b]
end Go.Js
namespace Go.Proofs.YthbfgkphlmlihaaGreat.Rw
open Go Go.Fw Go.Js
section
variable {h:Zf}
theorem YX {n lo hi:Int} {K:Bool->HP} (a:K (decide (lo<=n)&&decide (n<=hi)) h):Yq n lo hi K h:=by
  unfold Yq ZfP;refine Zn (fun h1=>Zc ?_) fun h1=>?_
  ·rw [decide_eq_true (p:=lo<=n) (by omega),Aqa] at a;exact a
  ·rw [decide_eq_false (p:=lo<=n) (by omega),Aqb] at a;exact a
theorem ZAx {l:BL} {k:Nat} (a:k<=l.length):Ztv (Zx l) k (l.drop k):=by
  have:Ztv (Zx l) 0 l:=⟨rfl,by rw [ZDD];omega⟩;have:=this.dropK a;rwa [Awb] at this
theorem ZnO {l:BL} (hl:l.length<9223372036854775807) {K:Bool->HP} (b:K (ZbV l) h):Zao (Zx l) K h:=by
  unfold Zao ZfR;have hs:(Zx l).size=l.length:=rfl;refine YP (fun p h'=>h'=h/\∃ i:Nat,p.1=i/\i<=l.length/\(l.take i).all ZDW=true) (fun p _=>l.length - p.1.toNat) ⟨rfl,0,rfl,Ayg _,rfl⟩ ?_;rintro ⟨o,u⟩ q ⟨rfl,i,hi,g,c⟩;dsimp only at hi ⊢;subst hi;refine Zn (fun j=>Za ?_) fun m=>?_
  ·have a:i<l.length:=by omega
   have n:Ztv (Zx l) i (l[i]::l.drop (i+1)):=by
     have:=ZAx (l:=l) (k:=i) (by omega);rwa [Ayo a] at this
   refine ⟨l[i],by omega,by rw [Aqu];exact n.head,YX ?_⟩;have r:=l[i].toNat_lt;rw [Yr (by omega) (by omega)]
   have e:(decide ((33:Int)<=(l[i].toNat:Int))&&decide ((l[i].toNat:Int)<=126))=ZDW l[i]:=by
     unfold ZDW;congr 1<;>(rw [decide_eq_decide];omega)
   rw [e]
   cases d:ZDW l[i] with
   | false =>
     refine Zl rfl ?_
     have:ZbV l=false:=by
       unfold ZbV
       have:l.all ZDW=false:=by
         cases f:l.all ZDW with
         | false=>rfl
         | true=>rw [Axb] at f;have:=f _ (Ayy a);rw [d] at this;cases this
       rw [this];rfl
     rw [this] at b;exact b
   | true =>
     refine Zi rfl ?_;rw [Yr (by omega) (by omega)];refine ⟨⟨rfl,i+1,rfl,by omega,?_⟩,by omega⟩;rw [Aym,Axy a,Ayr,c];simp [d]
  ·rw [Awd (by omega)] at c
   refine YX (Zc ?_);unfold ZbV at b;rw [c,Aqa] at b
   rw [show (decide ((1:Int)<=((Zx l).size:Int))&&decide (((Zx l).size:Int)<=64))=(decide (1<=l.length)&&decide (l.length<=64)) by
     rw [hs];congr 1<;>(rw [decide_eq_decide];omega)]
   exact b
theorem ZnP {nms:List BL} {nm:Sl} (a:Row h nm 1 (nms.map sV)) (hlen:∀ n,n∈nms->n.length<9223372036854775807) {K:Int->HP} (f:∀ n:Int,(0<=n↔nms.all ZbV=false)->K n h):ZK nm K h:=by
  unfold ZK Yk;have k:=Zlh a;have big:=a.big;have cap:=a.cap;refine Za (YP (fun p h'=>h'=h/\∃ i:Nat,p.1=i/\i<=nms.length/\(nms.take i).all ZbV=true) (fun p _=>(nms.length - p.1).toNat) ⟨rfl,0,rfl,Ayg _,rfl⟩ ?_);rintro ⟨q,u⟩ r ⟨rfl,i,hi,l,b⟩;dsimp only at hi ⊢;subst hi;refine Zn (fun m=>Za ?_) fun o=>Za ?_
  ·have c:i<nms.length:=by omega
   obtain ⟨t,d⟩:∃ t,nms[i]?=some t:=⟨nms[i],Axy c⟩;have hm:=Axo d;refine Zs2 a d rfl ?_;unfold ZcM Zc1;refine ZnO (hlen t hm) (Zc ?_)
   cases g:ZbV t with
   | false =>
     refine Zl rfl (Za (f _ ⟨fun _=>?_,fun _=>by omega⟩))
     cases j:nms.all ZbV with
     | false=>rfl
     | true=>rw [Axb] at j;have:=j _ hm;rw [g] at this;cases this
   | true =>
     refine Zi rfl ?_;rw [Yr (by omega) (by omega)];refine ⟨⟨rfl,i+1,rfl,by omega,?_⟩,by omega⟩;rw [Aym,d,Ayr,b];simp [g]
  ·rw [Awd (by omega)] at b
   exact f _ ⟨fun h0=>by omega,fun e=>by rw [b] at e;cases e⟩
theorem Zvu {res:BL} (hl:res.length<9223372036854775807) {nms:List BL} {nm:Sl} (e:Row h nm 1 (nms.map sV)) (hlen:∀ n,n∈nms->n.length<9223372036854775807) {K:Bool->HP} (b:∀ h',Ext h h'->K (ZbV res&&nms.all ZbV) h'):Zax (Zx res,nm,()) K h:=by
  unfold Zax Zek;refine ZJ fun h1 c1 c f=>rS (Zb c1 rfl) (ZnO hl ?_)
  cases a:ZbV res with
  | false=>rw [a] at b;exact Zi rfl (b h1 c)
  | true =>
    rw [a] at b;refine Zl rfl (rL (s:=nm) (Zb c1 rfl) ?_);unfold ZX ZY;refine ZnP (e.ext c) hlen fun n a=>Zc (Zc ?_);have:=b h1 c;rw [Aqa] at this
    cases d:nms.all ZbV with
    | true =>
      rw [d] at this a;rw [show decide (n>=0)=false by simp only [decide_eq_false_iff_not];intro h;have:=a.1 h;cases this];exact this
    | false =>
      rw [d] at this a;rw [show decide (n>=0)=true by simp only [decide_eq_true_eq];exact a.2 rfl];exact this
theorem Zlc {b:Bool} {n lo hi:Int} {K:Bool->HP} (a:K (onlyIf b n lo hi) h):Zeq b n lo hi K h:=by
  unfold Zeq ZjI
  cases b with
  | false =>
    have:onlyIf false n lo hi=(n ==0):=by unfold onlyIf;rw [if_neg Bool.false_ne_true];rfl
    rw [this] at a;exact Zi rfl (Zl rfl (Zc a))
  | true =>
    have:onlyIf true n lo hi=inJ n lo hi:=if_pos rfl;rw [this] at a;refine Zl rfl (YX ?_);show Zm (inJ n lo hi) _ _
    cases c:inJ n lo hi with
    | true=>rw [c] at a;exact Zl rfl a
    | false=>rw [c] at a;exact Zi rfl (Zi rfl a)
theorem ZoS {ws:List BL} {x:Sl} (c:Row h x 1 (ws.map sV)) {K:Bool->HP} (f:K (Zh6 ws) h):ZeC x K h:=by
  unfold ZeC ZiK;have q:=Zlh c;have big:=c.big;have cap:=c.cap;refine YP (fun p h'=>h'=h/\∃ i:Nat,p.1=i/\i<=ws.length/\(ws.take i).Nodup) (fun p _=>(ws.length - p.1).toNat) ⟨rfl,0,rfl,Ayg _,by simp⟩ ?_;rintro ⟨y,u⟩ g ⟨rfl,i,hi,r,j⟩;dsimp only at hi ⊢;subst hi;refine Zn (fun s=>?_) fun v=>?_
  ·have k:i<ws.length:=by omega
   obtain ⟨t,o⟩:∃ t,ws[i]?=some t:=⟨ws[i],Axy k⟩;refine Zs2 c o rfl (Za (c.slc (a:=0) (b:=i) (m:=x.cap) rfl rfl rfl (by omega) (by omega) (by omega) (Aqo _) fun s' l _ _ _=>?_));have n:Row g s' 1 ((ws.take i).map sV):=by simpa [List.map_take] using l
   refine Zoa n ?_;have d:ws.take (i+1)=ws.take i++[t]:=by rw [Aym,o];rfl
   by_cases hm:t∈ws.take i
   ·rw [decide_eq_true hm]
    have:Zh6 ws=true:=by
      cases w:Zh6 ws with
      | true=>rfl
      | false =>
        have nd:=(List.take_sublist (i+1) ws).nodup (Zrx.1 w);rw [d,List.nodup_append] at nd;exact absurd rfl (nd.2.2 t hm t (by simp))
    rw [this] at f;exact Zl rfl f
   ·rw [decide_eq_false hm]
    refine Zi rfl ?_;rw [Yr (by omega) (by omega)];refine ⟨⟨rfl,i+1,rfl,by omega,?_⟩,by omega⟩;rw [d,List.nodup_append];exact ⟨j,by simp,fun a h1 b g e=>hm (by simp at g;rw [<- g,<- e];exact h1)⟩
  ·rw [Awd (by omega)] at j
   rw [Zrx.2 j] at f;exact f
def Zso (cl:Value) (K:Bool->HP) (h:Zf):Prop :=
  (exG cl (fun c:Option Addr × Option Addr × Unit=> .func (.func 190) #[] ⟨[.pointer c.1,.pointer c.2.1]⟩) fun c=>ZdO c.1 c.2.1 K h)\/(
  (exG cl (fun c:Option Addr × Unit=> .func (.func 191) #[] ⟨[.pointer c.1]⟩) fun c=>ZdN c.1 K h)\/(
  (exG cl (fun c:Option Addr × Unit=> .func (.func 192) #[] ⟨[.pointer c.1]⟩) fun c=>ZdM c.1 K h)\/(
  (exG cl (fun c:Option Addr × Unit=> .func (.func 193) #[] ⟨[.pointer c.1]⟩) fun c=>ZdL c.1 K h)\/(
  (exG cl (fun c:Option Addr × Option Addr × Option Addr × Unit=> .func (.func 194) #[] ⟨[.pointer c.1,.pointer c.2.1,.pointer c.2.2.1]⟩) fun c=>ZdK c.1 c.2.1 c.2.2.1 K h)\/(
  (exG cl (fun c:Option Addr × Unit=> .func (.func 195) #[] ⟨[.pointer c.1]⟩) fun c=>ZdJ c.1 K h)\/(
  (exG cl (fun c:Option Addr × Unit=> .func (.func 196) #[] ⟨[.pointer c.1]⟩) fun c=>ZdI c.1 K h)\/(
  (exG cl (fun c:Option Addr × Option Addr × Unit=> .func (.func 140) #[] ⟨[.pointer c.1,.pointer c.2.1]⟩) fun c=>ZcQ c.1 c.2.1 K h)\/(
  (exG cl (fun c:Option Addr × Unit=> .func (.func 142) #[] ⟨[.pointer c.1]⟩) fun c=>ZcP c.1 K h)\/(
  (exG cl (fun c:Option Addr × Unit=> .func (.func 144) #[] ⟨[.pointer c.1]⟩) fun c=>ZcO c.1 K h)\/(
  (exG cl (fun c:Option Addr × Unit=> .func (.func 145) #[] ⟨[.pointer c.1]⟩) fun c=>ZcN c.1 K h)\/(
  (exG cl (fun c:Option Addr × Unit=> .func (.func 148) #[] ⟨[.pointer c.1]⟩) fun c=>ZeG c.1 K h)\/(
  (exG cl (fun c:Option Addr × Option Addr × Unit=> .func (.func 149) #[] ⟨[.pointer c.1,.pointer c.2.1]⟩) fun c=>ZeF c.1 c.2.1 K h)\/(
  (exG cl (fun c:Option Addr × Unit=> .func (.func 151) #[] ⟨[.pointer c.1]⟩) fun c=>ZeE c.1 K h)\/(
  (exG cl (fun c:Option Addr × Unit=> .func (.func 197) #[] ⟨[.pointer c.1]⟩) fun c=>ZdH c.1 K h)\/False))))))))))))))
theorem ZGf {vs:List Value} {x:Sl} (a:Row h x 1 vs) {i:Nat} {v:Value} (hv:vs[i]?=some v) {n:Int} (c:n=i) {K:Value->Prop} (d:K v):YR x.ptr x.len n 1 fun b o=>ldV h b o K :=
  Row.idx a c hv fun b o _ e=>⟨_,e,d⟩
theorem Zqt {res:BL} (hl:res.length<9223372036854775807) {nms:List BL} {nm:Sl} (z:Row h nm 1 (nms.map sV)) (hlen:∀ n,n∈nms->n.length<9223372036854775807) {e:Nat} {r:Int} (he:r=e) {all:Sl} {cls:List (Value × Bool)} (g:Row h all 1 (cls.map (·.1)))
    (A:∀ p,p∈cls->∀ {h':Zf} {K:Bool->HP},Ext h h'->(∀ h'',Ext h' h''->K p.2 h'')->Zso p.1 K h') {K:Int->HP}
    (k:∀ h' (n:Nat),n=(if ZbV res&&nms.all ZbV then (if cls.all (·.2) then 0 else e) else 10)->Ext h h'->K n h'):Zay (Zx res,nm,r,()) all K h:=by
  subst he;unfold Zay Zhc;have l:all.len=cls.length:=by have:=g.len;simp at this;omega
  have big:=g.big;have cap:=g.cap;refine ZJ fun h1 c1 t H=>Za (rS (Zb c1 rfl) (rL (s:=nm) (Zb c1 rfl) (Zvu hl (z.ext t) hlen fun w x=>?_)));have B:=Zj c1 x;have c:=t.trans x
  cases m:(ZbV res&&nms.all ZbV) with
  | false=>exact Zl rfl (Za (k w 10 (by rw [m];rfl) c))
  | true =>
    refine Zi rfl (YP (fun p h'=>Ext w h'/\∃ i:Nat,p.1=i/\i<=cls.length/\(cls.take i).all (·.2)=true) (fun p _=>(cls.length - p.1).toNat) ⟨Ext.refl _,0,rfl,Ayg _,rfl⟩ ?_);rintro ⟨I,u⟩ h3 ⟨a,i,hi,C,o⟩;dsimp only at hi ⊢;subst hi;refine Zn (fun D=>?_) fun E=>Za ?_
    ·have q:i<cls.length:=by omega
     obtain ⟨p,j⟩:∃ p,cls[i]?=some p:=⟨cls[i],Axy q⟩;have d:=c.trans a;refine ZGf (g.ext d) (v:=p.1) (by rw [Awy,j];rfl) rfl ?_;refine A p (Axo j) (h':=h3) (K:=_) d fun F f=>?_;have G:=Zj B (a.trans f)
     cases y:p.2 with
     | false =>
       refine Zl rfl (rI (Zb G rfl) (Za (k F e ?_ (d.trans f))));rw [m,if_pos rfl,if_neg];intro b;rw [Axb] at b;have:=b p (Axo j);rw [y] at this;cases this
     | true =>
       refine Zi rfl ?_;rw [Yr (by omega) (by omega)];refine ⟨⟨a.trans f,i+1,rfl,by omega,?_⟩,by omega⟩;rw [Aym,j,Ayr,o];simp [y]
    ·rw [Awd (by omega)] at o
     exact k h3 0 (by rw [m,if_pos rfl,if_pos o]) (c.trans a)
theorem ZvJ {K:Bool->HP} {b r:Bool} (a:K b h) (e:r=b):K r h:=e▸a
theorem ZAJ (n m:Nat):((n:Int) ==(m:Int))=decide (n=m):=by
  rw [Bool.eq_iff_iff,beq_iff_eq,decide_eq_true_eq];omega
theorem ZN7 {f:FlowP} {T:TypeId} {b c:Nat} {lo:Int} (cb:obj h b=some (.cells (Zfh f).toArray T (0,0))) (a:Box h c (i64 lo)) {K:Bool->HP} (d:K (inJ f.cnt lo 1099511627776) h):Zso (.func (.func 190) #[] #[.pointer (At b),.pointer (At c)]) K h:=by
  obtain ⟨T2,a⟩:=a;refine .inl ⟨(At b,At c,()),rfl,?_⟩;unfold ZdO ZhW;exact Zg (rI (Zb cb rfl) (Zg (rI (Zb a rfl) (YX (Zc d)))))
theorem ZN6 {f:FlowP} {T:TypeId} {b:Nat} (cb:obj h b=some (.cells (Zfh f).toArray T (0,0))) {K:Bool->HP} (a:K (decide (f.strat<=2)&&decide (f.shape<=3)) h):Zso (.func (.func 191) #[] #[.pointer (At b)]) K h:=by
  refine .inr (.inl ⟨(At b,()),rfl,?_⟩);unfold ZdN ZhV;refine Zg (rI (Zb cb rfl) (Zn (fun h1=>Zg (rI (Zb cb rfl) (Zc (ZvJ a ?_)))) fun h1=>ZvJ a ?_))
  ·rw [decide_eq_true (p:=f.strat<=2) (by omega),Aqa,decide_eq_decide]
   omega
  ·rw [decide_eq_false (p:=f.strat<=2) (by omega),Aqb]
theorem ZN5 {f:FlowP} {T:TypeId} {b:Nat} (cb:obj h b=some (.cells (Zfh f).toArray T (0,0))) {K:Bool->HP} (a:K (!decide (f.strat=0)||decide (f.ref=[])) h):Zso (.func (.func 192) #[] #[.pointer (At b)]) K h:=by
  refine .inr (.inr (.inl ⟨(At b,()),rfl,?_⟩));unfold ZdM ZhU;refine Zg (rI (Zb cb rfl) (ZqE (fun h1=>ZvJ a ?_) fun h1=>Zg (rS (Zb cb rfl) (Zc (ZvJ a ?_)))))
  ·rw [decide_eq_false (p:=f.strat=0) (by omega)]
   rfl
  ·rw [decide_eq_true (p:=f.strat=0) (by omega)]
   exact ZgZ f.ref []
theorem ZN4 {f:FlowP} {T:TypeId} {b:Nat} (cb:obj h b=some (.cells (Zfh f).toArray T (0,0))) {K:Bool->HP} (a:K (!f.thr||decide (f.shape=0) && !f.clu) h):Zso (.func (.func 193) #[] #[.pointer (At b)]) K h:=by
  refine .inr (.inr (.inr (.inl ⟨(At b,()),rfl,?_⟩)));unfold ZdL ZhT;refine Zg (rBl (Zb cb rfl) ?_)
  cases c:f.thr with
  | false=>rw [c] at a;exact Zl rfl a
  | true =>
    rw [c] at a;refine Zi rfl (Zg (rI (Zb cb rfl) (ZhD (fun h1=>Zg (rBl (Zb cb rfl) (Zc (ZvJ a ?_)))) fun h1=>ZvJ a ?_)))
    ·rw [decide_eq_true (p:=f.shape=0) (by omega)];simp
    ·rw [decide_eq_false (p:=f.shape=0) (by omega)];simp
theorem ZN3 {f:FlowP} {T:TypeId} {b w p:Nat} {c e:Bool} (cb:obj h b=some (.cells (Zfh f).toArray T (0,0))) (d:Box h w (.bool c)) (cp:Box h p (.bool e)) {K:Bool->HP} (a:K (onlyIf c f.warm 1 3600&&onlyIf e f.queue 0 3600000000) h) :
    Zso (.func (.func 194) #[] #[.pointer (At w),.pointer (At b),.pointer (At p)]) K h:=by
  obtain ⟨T1,d⟩:=d;obtain ⟨T2,cp⟩:=cp;refine .inr (.inr (.inr (.inr (.inl ⟨(At w,At b,At p,()),rfl,?_⟩))));unfold ZdK ZhS;refine Zg (rBl (Zb d rfl) (Zg (rI (Zb cb rfl) (Zlc ?_))))
  cases ho:onlyIf c f.warm 1 3600 with
  | false=>rw [ho] at a;exact Zi rfl a
  | true=>rw [ho] at a;exact Zl rfl (Zg (rBl (Zb cp rfl) (Zg (rI (Zb cb rfl) (Zlc (Zc a))))))
theorem ZN2 {f:FlowP} {T:TypeId} {b:Nat} (cb:obj h b=some (.cells (Zfh f).toArray T (0,0))) {K:Bool->HP} (a:K (!f.clu||decide (f.strat=0)&&decide (f.shape=0)) h):Zso (.func (.func 195) #[] #[.pointer (At b)]) K h:=by
  refine .inr (.inr (.inr (.inr (.inr (.inl ⟨(At b,()),rfl,?_⟩)))));unfold ZdJ ZhR;refine Zg (rBl (Zb cb rfl) ?_)
  cases c:f.clu with
  | false=>rw [c] at a;exact Zl rfl a
  | true =>
    rw [c] at a;refine Zi rfl (Zg (rI (Zb cb rfl) (ZhD (fun h1=>Zg (rI (Zb cb rfl) (Zc (ZvJ a ?_)))) fun h1=>ZvJ a ?_)))
    ·rw [decide_eq_true (p:=f.strat=0) (by omega)]
     exact ZAJ f.shape 0
    ·rw [decide_eq_false (p:=f.strat=0) (by omega)];rfl
theorem ZN1 {f:FlowP} {T:TypeId} {b:Nat} (cb:obj h b=some (.cells (Zfh f).toArray T (0,0))) {K:Bool->HP} (a:K (onlyIf f.clu f.id 1 1099511627776&&(f.clu || !f.fb)) h):Zso (.func (.func 196) #[] #[.pointer (At b)]) K h:=by
  refine .inr (.inr (.inr (.inr (.inr (.inr (.inl ⟨(At b,()),rfl,?_⟩))))));unfold ZdI ZhQ;refine Zg (rBl (Zb cb rfl) (Zg (rI (Zb cb rfl) (Zlc ?_))))
  cases ho:onlyIf f.clu f.id 1 1099511627776 with
  | false=>rw [ho] at a;exact Zi rfl a
  | true =>
    rw [ho] at a;refine Zl rfl (Zg (rBl (Zb cb rfl) ?_))
    cases c:f.clu with
    | true=>rw [c] at a;exact Zl rfl a
    | false=>rw [c] at a;exact Zi rfl (Zg (rBl (Zb cb rfl) (Zc a)))
theorem Zym {b:Nat} {v0 v:Value} (cb:Box h b v0) (hv:Zr v=true) {K:HP} (a:∀ h',Box h' b v->Upd (· = b) h h'->sz h'=sz h->K h'):st h b 0 v K:=by
  obtain ⟨T,cb⟩:=cb;exact Zbf cb (by show 0<1;omega) hv fun h' c u z=>a h' ⟨T,c⟩ u z
theorem Zl2 {v0 v:Value} {T:TypeId} (hv:Zr v=true) {K:Nat->HP} (c:∀ b h',Ext h h'->Box h' b v->sz h<=b->K b h'):newC h [v0] T fun b h1=>st h1 b 0 v fun a=>K b a:=by
  refine ZJ fun h1 c1 d i=>Zbf c1 (by show 0<1;omega) hv fun a e f k=>?_;exact c _ a (d.updS f fun j g=>by subst g;exact Aqo _) ⟨_,e⟩ (Aqo _)
def FlowP.nms (f:FlowP):List BL:=if f.strat=1\/f.strat=2 then [f.org,f.ref] else [f.org]
theorem Zx6 {f:FlowP} {bs:List Bool} (h:bs=[inJ f.cnt (if f.shape=0 then 0 else 1) 1099511627776,decide (f.strat<=2)&&decide (f.shape<=3),!decide (f.strat=0)||decide (f.ref=[]),!f.thr||decide (f.shape=0) && !f.clu,
    onlyIf (decide (f.shape=1)||decide (f.shape=3)) f.warm 1 3600&&onlyIf (decide (f.shape=2)||decide (f.shape=3)) f.queue 0 3600000000,!f.clu||decide (f.strat=0)&&decide (f.shape=0),onlyIf f.clu f.id 1 1099511627776&&(f.clu || !f.fb)]):bs.all id=f.good:=by
  subst h;simp only [Awm,Ayc,id,Ayb,FlowP.good];simp only [Ayz]
theorem ZvH {f:FlowP}:(ZbV f.res&&(Go.Proofs.YthbfgkphlmlihaaGreat.Rw.FlowP.nms f).all ZbV)=f.names:=by
  unfold FlowP.nms FlowP.names
  by_cases a:f.strat=1\/f.strat=2
  ·rw [if_pos a,if_pos a];simp [Ayz]
  ·rw [if_neg a,if_neg a];simp
theorem ZrN {f:FlowP} (hl:f.res.length<9223372036854775807/\f.org.length<9223372036854775807/\f.ref.length<9223372036854775807) {K:Int->HP} (hk:∀ h',Ext h h'->K f.err h'):ZhA (ZaJ f) K h:=by
  unfold ZhA ZjN;refine ZJ fun h1 c1 e1 z1=>Za ?_;have cb:obj h1 h.size=some (.cells (Zfh f).toArray 32 (0,0)):=c1;have s0:sz h=h.size:=rfl;refine rS (Zb cb rfl) (ZJ fun J c4 U z4=>?_);have s1:sz h1=h1.size:=rfl;have s4:sz J=J.size:=rfl;have z:=Zj cb U;refine Zeu (fun p h'=>Ext h1 h'/\Row h' p.1 1 ((Go.Proofs.YthbfgkphlmlihaaGreat.Rw.FlowP.nms f).map sV)) ?_ ?_
  ·rintro ⟨nm,u⟩ V ⟨D,W⟩
   dsimp only at W ⊢;have l:=Zj cb D;refine Zeu (fun p h'=>Ext V h'/\∃ b,p.1=At b/\Box h' b (.bool (decide (f.shape=1)||decide (f.shape=3)))) ?_ ?_
   ·rintro ⟨wp,u⟩ X ⟨m,w,rfl,Y⟩
    have q:=Zj l m;refine Zeu (fun p h'=>Ext X h'/\∃ b,p.1=At b/\Box h' b (.bool (decide (f.shape=2)||decide (f.shape=3)))) ?_ ?_
    ·rintro ⟨pp,u⟩ g ⟨d,pb,rfl,Z⟩
     have L:=Zj q d;refine Zl2 rfl fun lb s a bl aw=>?_;have t:=Zj L a;have E:Ext h1 s:=D.trans (m.trans (d.trans a));have ax:h.size<sz g:=by have:=(D.trans (m.trans d)).size;have:sz g=g.size:=rfl;omega
     refine Zeu (fun _ h'=>Ext h h'/\obj h' h.size=some (.cells (Zfh f).toArray 32 (0,0))/\Box h' lb (i64 (if f.shape=0 then 0 else 1))/\Row h' nm 1 ((Go.Proofs.YthbfgkphlmlihaaGreat.Rw.FlowP.nms f).map sV)/\Box h' w (.bool (decide (f.shape=1)||decide (f.shape=3)))/\Box h' pb (.bool (decide (f.shape=2)||decide (f.shape=3)))) ?_ ?_
     ·rintro ⟨⟩ ay ⟨aa,A,M,N,O,P⟩
      refine rS (Zb A rfl) (ZJ fun az ae F aA=>?_)
      refine Zqt (cls:=[(.func (.func 190) #[] #[.pointer (At h.size),.pointer (At lb)],inJ f.cnt (if f.shape=0 then 0 else 1) 1099511627776),(.func (.func 191) #[] #[.pointer (At h.size)],decide (f.strat<=2)&&decide (f.shape<=3)),
        (.func (.func 192) #[] #[.pointer (At h.size)],!decide (f.strat=0)||decide (f.ref=[])),(.func (.func 193) #[] #[.pointer (At h.size)],!f.thr||decide (f.shape=0) && !f.clu),
        (.func (.func 194) #[] #[.pointer (At w),.pointer (At h.size),.pointer (At pb)],onlyIf (decide (f.shape=1)||decide (f.shape=3)) f.warm 1 3600&&onlyIf (decide (f.shape=2)||decide (f.shape=3)) f.queue 0 3600000000),
        (.func (.func 195) #[] #[.pointer (At h.size)],!f.clu||decide (f.strat=0)&&decide (f.shape=0)),(.func (.func 196) #[] #[.pointer (At h.size)],onlyIf f.clu f.id 1 1099511627776&&(f.clu || !f.fb))])
        hl.1 (N.ext F) (fun n G=>?_) (e:=30) rfl ⟨rfl,Aqo _,by show 7<_;omega,.inr ⟨_,0,rfl,Zf8 ae fun i v hi=>by simpa using hi⟩⟩ (fun p hp h' S x k'=>?_) fun h' n G x=>Za ?_
      ·unfold FlowP.nms at G
       split at G<;>simp at G
       ·rcases G with rfl | rfl
        ·exact hl.2.1
        ·exact hl.2.2
       ·subst G;exact hl.2.1
      ·have T:=F.trans x
       have c:=Zj A T;have H:=k' h' (Ext.refl _);simp only [Awr,Ayk,or_false] at hp
       rcases hp with rfl | rfl | rfl | rfl | rfl | rfl | rfl
       ·exact ZN7 c (M.ext T) H
       ·exact ZN6 c H
       ·exact ZN5 c H
       ·exact ZN4 c H
       ·exact ZN3 c (O.ext T) (P.ext T) H
       ·exact ZN2 c H
       ·exact ZN1 c H
      ·have:n=f.err:=by
         rw [G,ZvH];unfold FlowP.err;rw [<- Zx6 rfl];rfl
       subst this;exact hk h' (aa.trans (F.trans x))
     ·have B:Ext h s:=e1.trans E
      have Q:=(W.ext (m.trans (d.trans a)));refine rI (Zb t rfl) (ZhD (fun h1=>Zym bl rfl fun af R y aC=>?_) fun h1=>?_)
      ·have ag:h.size≠lb:=by omega
       refine ⟨B.updS y fun j hj=>by subst hj;omega,YZ t y ag,by rw [if_pos (by omega)];exact R,?_,?_,?_⟩
       ·refine (W.ext (m.trans d)).congr fun b _ _ _ hb=>?_
        show obj af b=obj g b;have aE:sz g=g.size:=rfl;have aF:sz s=s.size:=rfl;rw [Zag y (show b<sz s by have:=a.size;omega) (by omega)];exact ZG a hb
       ·have:=(Y.ext d).lt
        exact ((Y.ext d).ext a).upd y (by omega)
       ·have:=Z.lt
        exact (Z.ext a).upd y (by omega)
      ·exact ⟨B,t,by rw [if_neg (by omega)];exact bl,Q,(Y.ext d).ext a,Z.ext a⟩
    ·refine rI (Zb q rfl) (ZhD (fun h1=>Zl2 rfl fun b h' x I _=>⟨x,b,rfl,?_⟩) fun h1=>rI (Zb q rfl) (Zl2 rfl fun b h' x I _=>⟨x,b,rfl,?_⟩))
     ·rw [decide_eq_true (p:=f.shape=2) (by omega),Bool.true_or];exact I
     ·rw [decide_eq_false (p:=f.shape=2) (by omega),Bool.false_or,<- ZAJ];exact I
   ·refine rI (Zb l rfl) (ZhD (fun h1=>Zl2 rfl fun b h' x I _=>⟨x,b,rfl,?_⟩) fun h1=>rI (Zb l rfl) (Zl2 rfl fun b h' x I _=>⟨x,b,rfl,?_⟩))
    ·rw [decide_eq_true (p:=f.shape=1) (by omega),Bool.true_or];exact I
    ·rw [decide_eq_false (p:=f.shape=1) (by omega),Bool.false_or,<- ZAJ];exact I
  ·have C:Own J h1.size ⟨some ⟨h1.size,0,none⟩,1,1⟩ 1 [sV f.org]:=⟨rfl,Aqo _,by show 1<_;omega,.inr ⟨_,_,_,rfl,Aqo _,c4,rfl,rfl⟩⟩
   have push:∀ {S:Sl->HP},(f.strat=1\/f.strat=2)->(∀ s' h',Ext h1 h'->Row h' s' 1 ((Go.Proofs.YthbfgkphlmlihaaGreat.Rw.FlowP.nms f).map sV)->S s' h')->newC J [.string (Zx f.ref)] 9 fun b8 h9=>rdS ⟨some ⟨b8,0,none⟩,1,1⟩ 1 h9 fun new=>app 9 1 16 [.string (ByteArray.mk #[])] ⟨some ⟨h1.size,0,none⟩,1,1⟩ 1 new h9 S:=by
     intro S hs k;refine Zt0 (cells:=[sV f.ref]) C rfl rfl rfl (show (1+1)*16<=140737488355328 by decide) (show 1+1<=140737488355328 by decide) (show h1.size<=sz J by omega) fun s' h' o u _=>k s' h' (U.updS u fun j hj=>?_) ?_
     ·have:h1.size=j:=by simpa [Sl.blk] using hj
      omega
     ·unfold FlowP.nms
      rw [if_pos hs];exact o.row
   refine rI (Zb z rfl) (ZhD (fun ai=>rS (Zb z rfl) (push (.inl (by omega)) fun s' h' e r=>⟨e,r⟩)) fun ai=>rI (Zb z rfl) (ZhD (fun aj=>rS (Zb z rfl) (push (.inr (by omega)) fun s' h' e r=>⟨e,r⟩)) fun aj=>⟨U,?_⟩));unfold FlowP.nms;rw [if_neg (by omega)];exact C.row
theorem Ztl {cls:List Value} {T:TypeId} {b n:Nat} (c:obj h b=some (.cells cls.toArray T (0,0))) (a:cls.length=n) (hl:n<9223372036854775808):Row h ⟨some ⟨b,0,none⟩,n,n⟩ 1 cls :=
  ⟨by simp [a],Aqo _,hl,.inr ⟨_,0,rfl,Zf8 c fun i v hi=>by simpa using hi⟩⟩
theorem ZHk {f:YS} {T:TypeId} {b c:Nat} {hi:Int} (cb:obj h b=some (.cells (Zdk f).toArray T (0,0))) (a:Box h c (i64 hi)) {K:Bool->HP} (d:K (decide (f.grade<=2)&&inJ f.cnt 0 hi) h):Zso (.func (.func 140) #[] #[.pointer (At b),.pointer (At c)]) K h:=by
  obtain ⟨T2,a⟩:=a;refine .inr (.inr (.inr (.inr (.inr (.inr (.inr (.inl ⟨(At b,At c,()),rfl,?_⟩)))))));unfold ZcQ Zhh;refine Zg (rI (Zb cb rfl) (Zn (fun h1=>Zg (rI (Zb cb rfl) (Zg (rI (Zb a rfl) (YX (Zc (ZvJ d ?_))))))) fun h1=>ZvJ d ?_))
  ·rw [decide_eq_true (p:=f.grade<=2) (by omega),Aqa];rfl
  ·rw [decide_eq_false (p:=f.grade<=2) (by omega),Aqb]
theorem ZHj {f:YS} {T:TypeId} {b:Nat} (cb:obj h b=some (.cells (Zdk f).toArray T (0,0))) {K:Bool->HP} (a:K (onlyIf (decide (f.grade=0)) f.slow 1 3600000000) h):Zso (.func (.func 142) #[] #[.pointer (At b)]) K h:=by
  refine .inr (.inr (.inr (.inr (.inr (.inr (.inr (.inr (.inl ⟨(At b,()),rfl,?_⟩))))))));unfold ZcP Zhg;refine Zg (rI (Zb cb rfl) (Zg (rI (Zb cb rfl) (Zlc (Zc (ZvJ a ?_))))));rw [<- ZAJ f.grade 0];rfl
theorem ZHi {f:YS} {T:TypeId} {b:Nat} (cb:obj h b=some (.cells (Zdk f).toArray T (0,0))) {K:Bool->HP} (a:K (inJ f.least 1 1099511627776&&inJ f.window 1000000 120000000) h):Zso (.func (.func 144) #[] #[.pointer (At b)]) K h:=by
  refine .inr (.inr (.inr (.inr (.inr (.inr (.inr (.inr (.inr (.inl ⟨(At b,()),rfl,?_⟩)))))))));unfold ZcO Zhf;refine Zg (rI (Zb cb rfl) (YX ?_));show Zm (inJ f.least 1 1099511627776) _ _
  cases ho:inJ f.least 1 1099511627776 with
  | false=>rw [ho] at a;exact Zi rfl a
  | true=>rw [ho] at a;exact Zl rfl (Zg (rI (Zb cb rfl) (YX (Zc a))))
theorem ZHh {f:YS} {T:TypeId} {b:Nat} (cb:obj h b=some (.cells (Zdk f).toArray T (0,0))) {K:Bool->HP} (a:K (inJ f.recover 1000000 3600000000) h):Zso (.func (.func 145) #[] #[.pointer (At b)]) K h:=by
  refine .inr (.inr (.inr (.inr (.inr (.inr (.inr (.inr (.inr (.inr (.inl ⟨(At b,()),rfl,?_⟩))))))))));unfold ZcN Zhe;exact Zg (rI (Zb cb rfl) (YX (Zc a)))
theorem Zlv {f:YS} (hl:f.res.length<9223372036854775807) {K:Int->HP} (w:∀ h',Ext h h'->K f.err h'):Zdc (ZBR f) K h:=by
  unfold Zdc ZiP;refine ZJ fun h1 c1 r D=>Za ?_;have cb:obj h1 h.size=some (.cells (Zdk f).toArray 52 (0,0)):=c1;have E:sz h=h.size:=rfl;have s1:sz h1=h1.size:=rfl;refine Zl2 rfl fun mb F i s x=>?_;have a:=Zj cb i;refine Zeu (fun _ h'=>Ext h h'/\obj h' h.size=some (.cells (Zdk f).toArray 52 (0,0))/\Box h' mb (i64 (if f.grade=2 then 1099511627776 else 1000))) ?_ ?_
  ·rintro ⟨⟩ G ⟨y,b,k⟩
   refine rS (Zb b rfl) (ZJ fun z l d A=>?_)
   refine Zqt (cls:=[(.func (.func 140) #[] #[.pointer (At h.size),.pointer (At mb)],decide (f.grade<=2)&&inJ f.cnt 0 (if f.grade=2 then 1099511627776 else 1000)),(.func (.func 142) #[] #[.pointer (At h.size)],onlyIf (decide (f.grade=0)) f.slow 1 3600000000),
     (.func (.func 144) #[] #[.pointer (At h.size)],inJ f.least 1 1099511627776&&inJ f.window 1000000 120000000),(.func (.func 145) #[] #[.pointer (At h.size)],inJ f.recover 1000000 3600000000)])
     hl (nms:=[]) (Row.nil _ 1) (fun n m=>by cases m) (e:=31) rfl (Ztl (n:=4) l rfl (by decide)) (fun p t h' H o B=>?_) fun h' n m o=>Za ?_
   ·have u:=d.trans o
    have c:=Zj b u;have g:=B h' (Ext.refl _);simp only [Awr,Ayk,or_false] at t
    rcases t with rfl | rfl | rfl | rfl
    ·exact ZHk c (k.ext u) g
    ·exact ZHj c g
    ·exact ZHi c g
    ·exact ZHh c g
   ·have:n=f.err:=by
      rw [m];simp only [Ayc,Ayb,Awm,YS.err,YS.good,Ayz]
    subst this;exact w h' (y.trans (d.trans o))
  ·refine rI (Zb a rfl) (ZhD (fun h1=>Zym s rfl fun I q v J=>?_) fun h1=>?_)
   ·exact ⟨(r.trans i).updS v fun j C=>by subst C;omega,YZ a v (by omega),by rw [if_pos (by omega)];exact q⟩
   ·exact ⟨r.trans i,a,by rw [if_neg (by omega)];exact s⟩
theorem Zov {f:ZaD} {K:Int->HP} (l:∀ h',Ext h h'->K f.err h'):Zba (Zp9 f) K h:=by
  unfold Zba ZfQ;refine ZJ fun h1 c1 m D=>Za ?_;have cb:obj h1 h.size=some (.cells (ZgX f).toArray 202 (0,0)):=c1;refine rI (Zb cb rfl) (rI (Zb cb rfl) (rI (Zb cb rfl) (rI (Zb cb rfl) (rI (Zb cb rfl) (ZJ fun q x r E=>?_)))));obtain ⟨a,d⟩:∃ a,a=[f.qps,f.threads,f.rt,f.load,f.cpu]:=⟨_,rfl⟩;have y:a.length=5:=by rw [d];rfl
  have row:Row q ⟨some ⟨h1.size,0,none⟩,5,5⟩ 1 (a.map i64):=by
    rw [d];exact ⟨rfl,Aqo _,by show 5<_;omega,.inr ⟨_,0,rfl,Zf8 x fun i v hi=>by simpa [i64] using hi⟩⟩
  have c:a.all (fun n=>inJ n (-1) 1099511627776)=(inJ f.qps (-1) 1099511627776&&inJ f.threads (-1) 1099511627776&&inJ f.rt (-1) 1099511627776&&inJ f.load (-1) 1099511627776&&inJ f.cpu (-1) 1099511627776):=by
    rw [d];simp [Ayz]
  refine YP (fun p h'=>h'=q/\∃ i:Nat,p.1=i/\i<=5/\(a.take i).all (fun n=>inJ n (-1) 1099511627776)=true) (fun p _=>(5 - p.1).toNat) ⟨rfl,0,rfl,Ayg _,rfl⟩ ?_;rintro ⟨F,u⟩ s ⟨rfl,i,hi,z,e⟩;dsimp only at hi ⊢;subst hi;refine Zn (fun A=>?_) fun B=>Za ?_
  ·have g:i<a.length:=by omega
   obtain ⟨t,j⟩:∃ t,a[i]?=some t:=⟨a[i],Axy g⟩;refine Row.idx row (i:=(i:Int)) (n:=i) rfl (v:=i64 t) (by rw [Awy,j];rfl) fun b o _ C=>⟨t,C,Za (YX ?_)⟩;show Zm (!inJ t (-1) 1099511627776) _ _
   cases w:inJ t (-1) 1099511627776 with
   | false =>
     refine Zl rfl (Za ?_)
     have:f.err=33:=by
       unfold ZaD.err;rw [<- c,if_neg];intro h;rw [Axb] at h;have:=h t (Axo j);rw [w] at this;cases this
     have k:=l s (m.trans r);rw [this] at k;exact k
   | true =>
     refine Zi rfl ?_;rw [Yr (by omega) (by omega)];refine ⟨⟨rfl,i+1,rfl,by omega,?_⟩,by omega⟩;rw [Aym,j,Ayr,e];simp [w]
  ·have:i=5:=by omega
   subst this;rw [Awd (by omega)] at e
   have:f.err=0:=by
     unfold ZaD.err;rw [<- c,if_pos e]
   have k:=l s (m.trans r);rw [this] at k;exact k
theorem ZNX {f:ZbC} {x:Sl} {T:TypeId} {b:Nat} (cb:obj h b=some (.cells (Ziz (x,f)).toArray T (0,0))) (c:Row h x 1 (f.origins.map sV)) {K:Bool->HP} (a:K (decide (1<=f.origins.length)&&decide (f.origins.length<=32) && !Zh6 f.origins) h) :
    Zso (.func (.func 197) #[] #[.pointer (At b)]) K h:=by
  refine .inr (.inr (.inr (.inr (.inr (.inr (.inr (.inr (.inr (.inr (.inr (.inr (.inr (.inr (.inl ⟨(At b,()),rfl,?_⟩))))))))))))));unfold ZdH ZhP;have hl:=Zlh c;refine Zg (rL (s:=x) (Zb cb rfl) (YX ?_))
  have e:(decide ((1:Int)<=(x.len:Int))&&decide ((x.len:Int)<=32))=(decide (1<=f.origins.length)&&decide (f.origins.length<=32)):=by
    rw [hl];congr 1<;>(rw [decide_eq_decide];omega)
  rw [e]
  cases ho:(decide (1<=f.origins.length)&&decide (f.origins.length<=32)) with
  | false=>rw [ho] at a;exact Zi rfl a
  | true=>rw [ho] at a;exact Zl rfl (Zg (rL (s:=x) (Zb cb rfl) (ZoS c (Zc a))))
theorem ZhC {f:ZbC} {x:Sl} (hl:f.res.length<9223372036854775807/\∀ n,n∈f.origins->n.length<9223372036854775807) (d:Row h x 1 (f.origins.map sV)) {K:Int->HP} (i:∀ h',Ext h h'->K f.err h'):Zf2 (ZGQ x f) K h:=by
  unfold Zf2 ZjL;refine ZJ fun h1 c1 c m=>Za ?_;have cb:obj h1 h.size=some (.cells (Ziz (x,f)).toArray 160 (0,0)):=c1;refine rS (Zb cb rfl) (rL (s:=x) (Zb cb rfl) (ZJ fun o j a z5=>?_))
  refine Zqt (cls:=[(.func (.func 197) #[] #[.pointer (At h.size)],decide (1<=f.origins.length)&&decide (f.origins.length<=32) && !Zh6 f.origins)])
    hl.1 (nms:=f.origins) (d.ext (c.trans a)) hl.2 (e:=34) rfl (Ztl (n:=1) j rfl (by decide)) (fun p g h' q b k=>?_) fun h' n l b=>Za ?_
  ·simp only [Awr,Ayk,or_false] at g
   subst g;exact ZNX (Zj cb (a.trans b)) (d.ext (c.trans (a.trans b))) (k h' (Ext.refl _))
  ·have:n=f.err:=by
     rw [l];simp only [Ayc,Ayb,Awm,ZbC.err]
   subst this;exact i h' (c.trans (a.trans b))
theorem ZnN {l:List (BL × Int)}:(Zhr l).length=l.length*2:=Zmh (f:=fun p:BL × Int=>[sV p.1,iv p.2]) (n:=2) (fun _=>rfl) l
theorem ZqD {l:List (BL × Int)} {x:Sl} (d:Row h x 2 (Zhr l)) {i:Nat} {p:BL × Int} (c:l[i]?=some p) {n:Int} (g:n=i) {K:ByteArray->Int->Prop} (j:K (Zx p.1) p.2):YR x.ptr x.len n 2 fun b o=>ldS h b o fun t=>ldI h b (o+1) .i64 fun t2=>K t t2:=by
  have hl:=d.len;rw [ZnN] at hl;have hi:=ZAS c
  rcases d.at_ with h0 | ⟨b,o,a,e⟩
  ·omega
  ·rw [a]
   refine ZxT (n:=i) g (by omega) ?_;have g0:h.cell b (o+i*2)=some (sV p.1):=ZiC e (by have:=Zn4 (n:=2) (f:=fun p:BL × Int=>[sV p.1,iv p.2]) (fun _=>rfl) l i 0 p c (by decide);simpa [Zhr] using this)
   have k:h.cell b (o+i*2+1)=some (iv p.2):=by
     have:=ZiC e (i:=i*2+1) (by have:=Zn4 (n:=2) (f:=fun p:BL × Int=>[sV p.1,iv p.2]) (fun _=>rfl) l i 1 p c (by decide);simpa [Zhr] using this);rw [<- Aqh] at this;exact this
   exact ⟨_,g0,_,k,j⟩
theorem ZRu {f:Zev} {x:Sl} {T:TypeId} {b:Nat} (cb:obj h b=some (.cells (Zln (x,f)).toArray T (0,0))) {K:Bool->HP} (a:K (inJ f.index 0 7&&inJ f.cnt 0 1099511627776) h):Zso (.func (.func 148) #[] #[.pointer (At b)]) K h:=by
  refine .inr (.inr (.inr (.inr (.inr (.inr (.inr (.inr (.inr (.inr (.inr (.inl ⟨(At b,()),rfl,?_⟩)))))))))));unfold ZeG ZiO;refine Zg (rI (Zb cb rfl) (YX ?_));show Zm (inJ f.index 0 7) _ _
  cases ho:inJ f.index 0 7 with
  | false=>rw [ho] at a;exact Zi rfl a
  | true=>rw [ho] at a;exact Zl rfl (Zg (rI (Zb cb rfl) (YX (Zc a))))
theorem ZRt {f:Zev} {x y:Sl} {T:TypeId} {b c:Nat} (cb:obj h b=some (.cells (Zln (x,f)).toArray T (0,0))) (e:Row h x 2 (Zhr f.items)) (d:Box h c (slV y)) (g:Row h y 1 ((f.items.map (·.1)).map sV)) {K:Bool->HP}
    (a:K (inJ f.secs 1 60&&decide (f.items.length<=32) && !Zh6 (f.items.map (·.1))) h):Zso (.func (.func 149) #[] #[.pointer (At b),.pointer (At c)]) K h:=by
  obtain ⟨T2,d⟩:=d;refine .inr (.inr (.inr (.inr (.inr (.inr (.inr (.inr (.inr (.inr (.inr (.inr (.inl ⟨(At b,At c,()),rfl,?_⟩))))))))))));unfold ZeF ZiN;have hl:=e.len;rw [ZnN] at hl;refine Zg (rI (Zb cb rfl) (YX ?_));show Zm (inJ f.secs 1 60) _ _
  cases ho:inJ f.secs 1 60 with
  | false=>rw [ho] at a;exact Zi rfl a
  | true =>
    rw [ho] at a;refine Zl rfl (Zg (rL (s:=x) (Zb cb rfl) (Zn (fun h1=>Zg (rL (s:=y) (Zb d rfl) (ZoS g (Zc (ZvJ a ?_))))) fun h1=>ZvJ a ?_)))
    ·rw [decide_eq_true (p:=f.items.length<=32) (by omega)];rfl
    ·rw [decide_eq_false (p:=f.items.length<=32) (by omega)];rfl
theorem ZRs {f:Zev} {x:Sl} {T:TypeId} {b:Nat} (cb:obj h b=some (.cells (Zln (x,f)).toArray T (0,0))) (j:Row h x 2 (Zhr f.items)) {K:Bool->HP} (o:∀ h',Ext h h'->K (f.items.all fun p=>decide (p.1.length<=64)&&inJ p.2 0 1099511627776) h') :
    Zso (.func (.func 151) #[] #[.pointer (At b)]) K h:=by
  refine .inr (.inr (.inr (.inr (.inr (.inr (.inr (.inr (.inr (.inr (.inr (.inr (.inr (.inl ⟨(At b,()),rfl,?_⟩)))))))))))));unfold ZeE ZiM;refine Zg (rL (s:=x) (Zb cb rfl) ?_);unfold Yb Yh Ym Yn;have hl:=j.len;rw [ZnN] at hl;have big:=j.big;have cap:=j.cap;obtain ⟨g,q⟩:∃ g:BL × Int->Bool,g=fun p=>decide (p.1.length<=64)&&inJ p.2 0 1099511627776:=⟨_,rfl⟩;rw [<- q] at o;refine Za (YP (fun p h'=>Ext h h'/\∃ i:Nat,p.1=i/\i<=f.items.length/\(f.items.take i).all g=true) (fun p _=>(f.items.length - p.1).toNat) ⟨Ext.refl _,0,rfl,Ayg _,rfl⟩ ?_);rintro ⟨H,u⟩ r ⟨l,i,hi,D,t⟩;dsimp only at hi ⊢;subst hi;refine Zn (fun E=>Za ?_) fun F=>Za (Zc (Zc ?_))
  ·have v:i<f.items.length:=by omega
   obtain ⟨p,w⟩:∃ p,f.items[i]?=some p:=⟨f.items[i],Axy v⟩;refine ZqD (j.ext l) w rfl ?_;unfold Zg6 Zhd;refine ZJ fun h3 A B z3=>rS (n:=Zx p.1) (Zb A rfl) ?_
   have step:∀ (bad:Bool),bad = !g p->Zm bad (Zd (i:Int) fun t8=>(fun (t1:Int) r=>Zq (decide (t1>=0)) fun t2=>Zq (!t2) fun t3=>K t3 r) t8 h3) (Ext h h3/\(∃ y:Nat,IntKind.wrap .i64 ((i:Int)+1)=y/\y<=f.items.length/\(f.items.take y).all g=true)/\(f.items.length - IntKind.wrap .i64 ((i:Int)+1)).toNat<(f.items.length - (i:Int)).toNat):=fun bad m=>by
     cases d:g p with
     | false =>
       rw [d] at m;refine Zl (by rw [m];rfl) (Za (Zc (Zc ?_)));rw [show decide ((i:Int)>=0)=true by simp]
       have:f.items.all g=false:=by
         cases C:f.items.all g with
         | false=>rfl
         | true=>rw [Axb] at C;have:=C p (Axo w);rw [d] at this;cases this
       have k:=o h3 (l.trans B);rw [this] at k;exact k
     | true =>
       rw [d] at m;refine Zi (by rw [m];rfl) ?_;rw [Yr (by omega) (by omega)];refine ⟨l.trans B,⟨i+1,rfl,by omega,?_⟩,by omega⟩;rw [Aym,w,Ayr,t];simp [d]
   have G:(Zx p.1).size=p.1.length:=rfl;refine Zn (fun z=>?_) fun z=>rI (n:=p.2) (Zb A rfl) (YX (Zc ?_))
   ·have:=step true (by rw [q];simp only [decide_eq_false (p:=p.1.length<=64) (by omega),Aqb,Axj])
    exact ⟨fun e=>this.1 e,fun e=>by cases e⟩
   ·have:=step (!inJ p.2 0 1099511627776) (by rw [q];simp only [decide_eq_true (p:=p.1.length<=64) (by omega),Aqa])
    exact ⟨this.1,fun e=>let ⟨a,b,c⟩:=this.2 e;⟨⟨a,b⟩,c⟩⟩
  ·rw [Awd (by omega)] at t
   have k:=o r l;rw [t] at k;exact k
theorem ZnS {f:Zev} {x:Sl} (hl:f.res.length<9223372036854775807) (hi:f.items.length<=1000000000000) (w:Row h x 2 (Zhr f.items)) {K:Int->HP} (hk:∀ h',Ext h h'->K f.err h'):Zg7 (ZE6 x f) K h:=by
  unfold Zg7 ZkQ;refine ZJ fun h1 c1 e1 z1=>Za (ZJ fun h3 c3 X z3=>?_);have s0:sz h=h.size:=rfl;have s1:sz h1=h1.size:=rfl;have s3:sz h3=h3.size:=rfl;have cb:obj h3 h.size=some (.cells (Zln (x,f)).toArray 134 (0,0)):=Zj c1 X;have I:=w.len;rw [ZnN] at I;have big:=w.big;have cap:=w.cap;have hm:(f.items.map (·.1)).length=f.items.length:=by simp
  refine rL (s:=x) (Zb cb rfl) (YP (fun p h'=>∃ (i:Nat) (y:Sl),p.1=i/\i<=f.items.length/\Ext h h'/\obj h' h.size=some (.cells (Zln (x,f)).toArray 134 (0,0))/\Box h' h1.size (slV y)/\Own h' (sz h3) y 1 (((f.items.map (·.1)).take i).map sV)) (fun p _=>(f.items.length - p.1).toNat)
    ⟨0,⟨none,0,0⟩,rfl,Ayg _,e1.trans X,cb,⟨_,c3⟩,Own.nil _ _ _⟩ ?_)
  rintro ⟨i_,u⟩ z ⟨i,y,A,ag,g,l,m,a⟩;dsimp only at A ⊢;subst A;have ah:y.len=i:=by have:=a.len;simp at this;omega
  have Y:sz h3<=sz z\/True:= .inr trivial;refine Zn (fun ai=>?_) fun aj=>?_
  ·have J:i<f.items.length:=by omega
   obtain ⟨p,B⟩:∃ p,f.items[i]?=some p:=⟨f.items[i],Axy J⟩;refine ZqD (w.ext g) B rfl (ZJ fun C L M ak=>ZNM L (by show 2<=2;omega) rfl fun k N O an=>?_);have s6:sz z=z.size:=rfl;have ao:sz C=C.size:=rfl;have aq:sz k=k.size:=rfl;have d:Ext z k:=M.updS O fun j G=>by subst G;exact Aqo _
   have D:=m.ext d;obtain ⟨Tb,E⟩:=D;have o:Own k (sz h3) y 1 (((f.items.map (·.1)).take i).map sV):=a.congr fun b _ P _=>ZG d P;have Z:=m.lt;have blt:∀ {b:Nat},y.blk=some b->sz h3<=b/\b<sz z:=fun e=>a.lt e;refine rL (s:=y) (Zb E rfl) (rS (n:=Zx p.1) (Zb N rfl) (Zt0 (cells:=[sV p.1]) o rfl rfl rfl (by omega) (by omega) ?_ fun s' Q R q au=>?_))
   ·have:=g.size
    omega
   have t:obj Q h1.size=some (.cells [slV y].toArray Tb (0,0)):=YZ E q fun e=>by have:=(blt e).1;omega
   refine Zbf t (by show 0<1;omega) rfl fun av S v aw=>?_;rw [Yr (by omega) (by omega)];refine ⟨⟨i+1,s',rfl,by omega,?_,?_,⟨_,S⟩,?_⟩,by omega⟩
   ·exact ((g.trans d).updS q fun j G=>by have:=(blt G).1;omega).updS v fun j G=>by omega
   ·exact YZ (YZ (Zj l d) q fun e=>by have:=(blt e).1;omega) v (by omega)
   ·have:((f.items.map (·.1)).take (i+1)).map sV=((f.items.map (·.1)).take i).map sV++[sV p.1]:=by
      rw [Aym,Awy,B];simp
    rw [this];exact R.congr fun b ax P ay=>Zag v P fun e=>by omega
  ·have:i=f.items.length:=by omega
   subst this;rw [Awd (by omega)] at a;refine rS (Zb l rfl) (ZJ fun az T F z22=>?_)
   refine Zqt (cls:=[(.func (.func 148) #[] #[.pointer (At h.size)],inJ f.index 0 7&&inJ f.cnt 0 1099511627776),(.func (.func 149) #[] #[.pointer (At h.size),.pointer (At h1.size)],inJ f.secs 1 60&&decide (f.items.length<=32) && !Zh6 (f.items.map (·.1))),
     (.func (.func 151) #[] #[.pointer (At h.size)],f.items.all fun p=>decide (p.1.length<=64)&&inJ p.2 0 1099511627776)])
     hl (nms:=[]) (Row.nil _ 1) (fun n U=>by cases U) (e:=32) rfl (Ztl (n:=3) T rfl (by decide)) (fun p B h' K' V W=>?_) fun h' n U V=>Za ?_
   ·have H:=F.trans V
    have c:=Zj l H;have r:=w.ext (g.trans H);simp only [Awr,Ayk,or_false] at B
    rcases B with rfl | rfl | rfl
    ·exact ZRu c (W h' (Ext.refl _))
    ·exact ZRt c r (m.ext H) (a.row.ext H) (W h' (Ext.refl _))
    ·exact ZRs c r W
   ·have:n=f.err:=by
      rw [U];simp only [Ayc,Ayb,Awm,Zev.err,Zev.good,Ayz]
    subst this;exact hk h' (g.trans (F.trans V))
end
end Go.Proofs.YthbfgkphlmlihaaGreat.Rw
namespace Go.Proofs.YthbfgkphlmlihaaGreat.Rw
open Go Go.Fw Go.Js
section
variable {H:Type} {enc:TypeId × Value->H} {P:Program} {w:World} {base:Nat} {spare:Nat->Bool} {held:Bool}
variable {tR tF tB tH tY tL tI ts tb ti tsg tsh tg sF sB sH sY sL sI sT:TypeId}
def Zju (z:VTR):List Value:=[slV z.1,slV z.2.1,slV z.2.2.1,slV z.2.2.2.1,slV z.2.2.2.2.1]
end
end Go.Proofs.YthbfgkphlmlihaaGreat.Rw
namespace Go.Js
open Go Go.Fw Go.Js
def ZoE:List (List Nat)->Nat->Option Nat
  | [],_=>none
  | es::r,k=>if 256<es.length then some k else ZoE r (k+1)
def ZEC:List (List Nat)->Nat->Option (Nat × Nat × Nat)
  | [],_=>none
  | es::r,k=>match Za8 id es 0 with
    | some (i,e)=>some (k,i,e)
    | none=>ZEC r (k+1)
def Zre (gs:List (List Nat)):Nat × Nat × Nat:=match ZoE gs 1 with
  | some k=>(k,0,5)
  | none=>(ZEC gs 1).getD (0,0,0)
def RulesP.errs (r:RulesP):List (List Nat):=[r.fl.map FlowP.err,r.br.map YS.err,r.ho.map Zev.err,r.sy.map ZaD.err,r.li.map ZbC.err]
theorem ZpB {α:Type} (f:α->Nat):∀ (l:List α) (i:Nat),Za8 id (l.map f) i=Za8 f l i
  | [],_=>rfl
  | a::l,i=>by
    simp only [Awo,Za8,id];rw [ZpB f l]
theorem Zp1 (r:RulesP):r.whereE=Zre r.errs:=by
  unfold RulesP.whereE Zre RulesP.errs;simp only [ZoE,ZEC,Ayv,ZpB];split
  ·rfl
  ·split
   ·rfl
   ·split
    ·rfl
    ·split
     ·rfl
     ·split
      ·rfl
      ·cases Za8 FlowP.err r.fl 0 with
       | some p=>rfl
       | none=>cases Za8 YS.err r.br 0 with
         | some p=>rfl
         | none=>cases Za8 Zev.err r.ho 0 with
           | some p=>rfl
           | none=>cases Za8 ZaD.err r.sy 0 with
             | some p=>rfl
             | none=>cases Za8 ZbC.err r.li 0 with
               | some p=>rfl
               | none=>rfl
theorem Zpl {gs:List (List Nat)} {i k:Nat} {es:List Nat} (h:gs[i]?=some es):ZoE (gs.drop i) k=if 256<es.length then some k else ZoE (gs.drop (i+1)) (k+1):=by
  obtain ⟨hi,rfl⟩:=Ayh.1 h;rw [Ayo hi];rfl
theorem Zye {gs:List (List Nat)} {i k:Nat} {es:List Nat} (h:gs[i]?=some es):ZEC (gs.drop i) k=match Za8 id es 0 with
    | some (i,e)=>some (k,i,e)
    | none=>ZEC (gs.drop (i+1)) (k+1):=by
  obtain ⟨hi,rfl⟩:=Ayh.1 h;rw [Ayo hi];rfl
theorem Zn5 {es:List Nat} {i k e:Nat} (h:es[i]?=some e):Za8 id (es.drop i) k=if e=0 then Za8 id (es.drop (i+1)) (k+1) else some (k,e):=by
  obtain ⟨hi,rfl⟩:=Ayh.1 h;rw [Ayo hi];rfl
end Go.Js
namespace Go.Proofs.YthbfgkphlmlihaaGreat.Rw
open Go Go.Fw Go.Js
section
variable {h:Zf}
theorem Znn {α:Type} {c:α->List Value} {n:Nat} (e:∀ a,(c a).length=n) {l:List α} {x:Sl} (f:Row h x n (l.flatMap c)) (j:0<n) {i:Nat} {a:α} (g:l[i]?=some a) {k:Int} (p:k=i) {P:Nat->Nat->Prop}
    (q:∀ b o,(∀ m v,(c a)[m]?=some v->h.cell b (o+m)=some v)->P b o):YR x.ptr x.len k n P:=by
  have hl:=f.len;rw [Zmh e] at hl;have hi:=ZAS g;have r:x.len=l.length:=Ayf j hl.symm
  rcases f.at_ with h0 | ⟨b,o,d,s⟩
  ·omega
  ·rw [d]
   refine ZxT (n:=i) p (by omega) (q b _ fun m v hv=>?_);have hm:m<n:=by rw [<- e a];exact ZAS hv
   have:=ZiC s (i:=i*n+m) (by rw [Zn4 e l i m a g hm];exact hv);rw [<- Aqh] at this;exact this
theorem ZlV {α:Type} {c:α->List Value} {n:Nat} (b:∀ a,(c a).length=n) {l:List α} {x:Sl} (d:Row h x n (l.flatMap c)) (e:0<n):x.len=l.length:=by
  have hl:=d.len;rw [Zmh b] at hl;exact Ayf e hl.symm
def ZFb (cl:Value) (i:Int) (K:Int->HP) (h:Zf):Prop :=
  (exG cl (fun c:Option Addr × Unit=> .func (.func 130) #[] ⟨[.pointer c.1]⟩) fun c=>Zb3 i c.1 K h)\/(
  (exG cl (fun c:Option Addr × Unit=> .func (.func 132) #[] ⟨[.pointer c.1]⟩) fun c=>Zb2 i c.1 K h)\/(
  (exG cl (fun c:Option Addr × Unit=> .func (.func 133) #[] ⟨[.pointer c.1]⟩) fun c=>Zb1 i c.1 K h)\/(
  (exG cl (fun c:Option Addr × Unit=> .func (.func 134) #[] ⟨[.pointer c.1]⟩) fun c=>Zb0 i c.1 K h)\/(
  (exG cl (fun c:Option Addr × Unit=> .func (.func 136) #[] ⟨[.pointer c.1]⟩) fun c=>ZbZ i c.1 K h)\/False))))
def RulesP.fit (r:RulesP):Prop:=(∀ f,f∈r.fl->f.res.length<9223372036854775807/\f.org.length<9223372036854775807/\f.ref.length<9223372036854775807)/\(∀ f,f∈r.br->f.res.length<9223372036854775807) /\
  (∀ f,f∈r.ho->f.res.length<9223372036854775807/\f.items.length<=1000000000000)/\∀ f,f∈r.li->f.res.length<9223372036854775807/\∀ n,n∈f.origins->n.length<9223372036854775807
theorem ZrT {α:Type} {f:α->Nat} {l:List α} {j e:Nat} (h:(l.map f)[j]?=some e):∃ a,l[j]?=some a/\e=f a:=by
  rw [Awy,Aza] at h;obtain ⟨a,h1,b⟩:=h;exact ⟨a,h1,b.symm⟩
abbrev clG (F gb:Nat):Value:= .func (.func F) #[] #[.pointer (At gb)]
theorem ZEt {z:VTR} {r:RulesP} {S:Nat->Prop} (i:Xe h S z r) (k:Go.Proofs.YthbfgkphlmlihaaGreat.Rw.RulesP.fit r) {gb:Nat} {T:TypeId} (c:obj h gb=some (.cells (Zju z).toArray T (0,0))) {j e:Nat} (he:(r.fl.map FlowP.err)[j]?=some e) {K:Int->HP} (l:∀ h',Ext h h'->K e h') :
    ZFb (clG 130 gb) j K h:=by
  obtain ⟨a,d,rfl⟩:=ZrT he;refine .inl ⟨(At gb,()),rfl,?_⟩;unfold Zb3 Zgp;refine Za (Zg (rL (s:=z.1) (Zb c rfl) (Znn (c:=Zfh) (fun _=>rfl) i.fl.1 (by decide) d rfl fun b o g=>?_)));refine ⟨_,g 0 _ rfl,_,g 1 _ rfl,_,g 2 _ rfl,_,g 3 _ rfl,_,g 4 _ rfl,_,g 5 _ rfl,_,g 6 _ rfl,_,g 7 _ rfl,_,g 8 _ rfl,_,g 9 _ rfl,_,g 10 _ rfl,_,g 11 _ rfl,?_⟩;exact ZrN (f:=a) (k.1 a (Axo d)) fun h' m=>Za (l h' m)
theorem ZEs {z:VTR} {r:RulesP} {S:Nat->Prop} (i:Xe h S z r) (k:Go.Proofs.YthbfgkphlmlihaaGreat.Rw.RulesP.fit r) {gb:Nat} {T:TypeId} (c:obj h gb=some (.cells (Zju z).toArray T (0,0))) {j e:Nat} (he:(r.br.map YS.err)[j]?=some e) {K:Int->HP} (l:∀ h',Ext h h'->K e h') :
    ZFb (clG 132 gb) j K h:=by
  obtain ⟨a,d,rfl⟩:=ZrT he;refine .inr (.inl ⟨(At gb,()),rfl,?_⟩);unfold Zb2 Zgo;refine Za (Zg (rL (s:=z.2.1) (Zb c rfl) (Znn (c:=Zdk) (fun _=>rfl) i.br.1 (by decide) d rfl fun b o g=>?_)));refine ⟨_,g 0 _ rfl,_,g 1 _ rfl,_,g 2 _ rfl,_,g 3 _ rfl,_,g 4 _ rfl,_,g 5 _ rfl,_,g 6 _ rfl,?_⟩;exact Zlv (f:=a) (k.2.1 a (Axo d)) fun h' m=>Za (l h' m)
theorem ZEr {z:VTR} {r:RulesP} {S:Nat->Prop} (k:Xe h S z r) (l:Go.Proofs.YthbfgkphlmlihaaGreat.Rw.RulesP.fit r) {gb:Nat} {T:TypeId} (c:obj h gb=some (.cells (Zju z).toArray T (0,0))) {j e:Nat} (he:(r.ho.map Zev.err)[j]?=some e) {K:Int->HP} (m:∀ h',Ext h h'->K e h') :
    ZFb (clG 133 gb) j K h:=by
  obtain ⟨a,d,rfl⟩:=ZrT he;obtain ⟨t,h1,n,h3⟩:=k.ho;rw [<- h1,Awy,Aza] at d;obtain ⟨p,d,rfl⟩:=d;refine .inr (.inr (.inl ⟨(At gb,()),rfl,?_⟩));unfold Zb1 Zgn;refine Za (Zg (rL (s:=z.2.2.1) (Zb c rfl) (Znn (c:=Zln) (fun _=>rfl) n.1 (by decide) d rfl fun b o g=>?_)));refine ⟨_,g 0 _ rfl,_,g 1 _ rfl,_,g 2 _ rfl,_,g 3 _ rfl,p.1,g 4 _ rfl,?_⟩;have hm:=Axo d;have i:=l.2.2.1 p.2 (by rw [<- h1];exact Axz.2 ⟨p,hm,rfl⟩);exact ZnS (f:=p.2) (x:=p.1) i.1 i.2 (h3 p hm).1 fun h' q=>Za (m h' q)
theorem ZEq {z:VTR} {r:RulesP} {S:Nat->Prop} (d:Xe h S z r) {gb:Nat} {T:TypeId} (c:obj h gb=some (.cells (Zju z).toArray T (0,0))) {j e:Nat} (he:(r.sy.map ZaD.err)[j]?=some e) {K:Int->HP} (i:∀ h',Ext h h'->K e h') :
    ZFb (clG 134 gb) j K h:=by
  obtain ⟨a,k,rfl⟩:=ZrT he;refine .inr (.inr (.inr (.inl ⟨(At gb,()),rfl,?_⟩)));unfold Zb0 Zgm;refine Za (Zg (rL (s:=z.2.2.2.1) (Zb c rfl) (Znn (c:=ZgX) (fun _=>rfl) d.sy.1 (by decide) k rfl fun b o g=>?_)));refine ⟨_,g 0 _ rfl,_,g 1 _ rfl,_,g 2 _ rfl,_,g 3 _ rfl,_,g 4 _ rfl,?_⟩;exact Zov (f:=a) fun h' l=>Za (i h' l)
theorem ZEp {z:VTR} {r:RulesP} {S:Nat->Prop} (i:Xe h S z r) (k:Go.Proofs.YthbfgkphlmlihaaGreat.Rw.RulesP.fit r) {gb:Nat} {T:TypeId} (c:obj h gb=some (.cells (Zju z).toArray T (0,0))) {j e:Nat} (he:(r.li.map ZbC.err)[j]?=some e) {K:Int->HP} (l:∀ h',Ext h h'->K e h') :
    ZFb (clG 136 gb) j K h:=by
  obtain ⟨a,d,rfl⟩:=ZrT he;obtain ⟨q,h1,m,h3⟩:=i.li;rw [<- h1,Awy,Aza] at d;obtain ⟨p,d,rfl⟩:=d;refine .inr (.inr (.inr (.inr (.inl ⟨(At gb,()),rfl,?_⟩))));unfold ZbZ Zgl;refine Za (Zg (rL (s:=z.2.2.2.2.1) (Zb c rfl) (Znn (c:=Ziz) (fun _=>rfl) m.1 (by decide) d rfl fun b o g=>?_)));refine ⟨_,g 0 _ rfl,_,g 1 _ rfl,p.1,g 2 _ rfl,?_⟩;have hm:=Axo d;exact ZhC (f:=p.2) (x:=p.1) (k.2.2.2 p.2 (by rw [<- h1];exact Axz.2 ⟨p,hm,rfl⟩)) (h3 p hm).1 fun h' n=>Za (l h' n)
def ZHb (p:Nat × List Nat × Value):List Value:=[i8 p.1,i64 (p.2.1.length:Int),p.2.2]
def Zsk (r:RulesP) (gb:Nat):List (Nat × List Nat × Value):=[(1,r.fl.map FlowP.err,clG 130 gb),(2,r.br.map YS.err,clG 132 gb),(3,r.ho.map Zev.err,clG 133 gb),(4,r.sy.map ZaD.err,clG 134 gb),(5,r.li.map ZbC.err,clG 136 gb)]
theorem Ztc {z:VTR} {r:RulesP} {S:Nat->Prop} (a:Xe h S z r) {K:Sl->HP}
    (e:∀ x gb h',Ext h h'->obj h' gb=some (.cells (Zju z).toArray 39 (0,0))->Row h' x 3 ((Zsk r gb).flatMap ZHb)->K x h'):ZdG z K h:=by
  unfold ZdG ZhO;refine ZJ fun h1 c1 f C=>?_;have cb:obj h1 h.size=some (.cells (Zju z).toArray 39 (0,0)):=c1;refine rL (s:=z.1) (Zb cb rfl) ⟨rfl,rL (s:=z.2.1) (Zb cb rfl) ⟨rfl,rL (s:=z.2.2.1) (Zb cb rfl) ⟨rfl,rL (s:=z.2.2.2.1) (Zb cb rfl) ⟨rfl,rL (s:=z.2.2.2.2.1) (Zb cb rfl) ⟨rfl,ZJ fun g b d D=>?_⟩⟩⟩⟩⟩;have j:=ZlV (c:=Zfh) (n:=12) (fun _=>rfl) a.fl.1 (by decide);have k:=ZlV (c:=Zdk) (n:=7) (fun _=>rfl) a.br.1 (by decide);have l:=ZlV (c:=ZgX) (n:=5) (fun _=>rfl) a.sy.1 (by decide);obtain ⟨m,o,p,E⟩:=a.ho;obtain ⟨q,t,u,F⟩:=a.li;have w:=ZlV (c:=Zln) (n:=5) (fun _=>rfl) p.1 (by decide);have y:=ZlV (c:=Ziz) (n:=3) (fun _=>rfl) u.1 (by decide);have A:m.length=r.ho.length:=by rw [<- o];simp
  have B:q.length=r.li.length:=by rw [<- t];simp
  rw [j,k,w,l,y,A,B] at b;refine e _ h.size g (f.trans d) (Zj cb d) ⟨rfl,Aqo _,by show 5<_;omega,.inr ⟨_,0,rfl,Zf8 b fun i v hi=>?_⟩⟩;rw [Awb];simpa [Zsk,ZHb,i8,i64,Ayv] using hi
theorem Zu2 {z:VTR} {r:RulesP} {S:Nat->Prop} (hr:Xe h S z r) (hf:Go.Proofs.YthbfgkphlmlihaaGreat.Rw.RulesP.fit r) {K:Int->Int->Int->HP} (D:∀ h' (p:Nat × Nat × Nat),p=r.whereE->Ext h h'->K p.1 p.2.1 p.2.2 h'):ZgG z K h:=by
  unfold ZgG ZiL;refine ZJ fun h1 c1 e1 z1=>Za (Za (Za ?_));have cb:obj h1 h.size=some (.cells (Zju z).toArray 39 (0,0)):=c1;refine rL (s:=z.1) (Zb cb rfl) (rL (s:=z.2.1) (Zb cb rfl) (rL (s:=z.2.2.1) (Zb cb rfl) (rL (s:=z.2.2.2.1) (Zb cb rfl) (rL (s:=z.2.2.2.2.1) (Zb cb rfl) (Ztc (z:=z) (hr.ext e1) fun x gb G af cg row=>?_)))));have f:=e1.trans af;have hx:x.len=5:=ZlV (c:=ZHb) (n:=3) (fun _=>rfl) row (by decide);have ag:(Zsk r gb).map (·.2.1)=r.errs:=rfl
  have E:∀ (i:Nat) p,(Zsk r gb)[i]?=some p->p.1=i+1:=fun i p d=>by
    match i,d with
    | 0,d=>cases d;rfl
    | 1,d=>cases d;rfl
    | 2,d=>cases d;rfl
    | 3,d=>cases d;rfl
    | 4,d=>cases d;rfl
    | n+5,d=>cases d
  have C:∀ (i:Nat) p,(Zsk r gb)[i]?=some p->r.errs[i]?=some p.2.1:=fun i p d=>by rw [<- ag,Awy,d];rfl
  have F:∀ (i:Nat) p,(Zsk r gb)[i]?=some p->Zr p.2.2=true:=fun i p d=>by
    have hm:=Axo d;simp only [Zsk,Awr,Ayk,or_false] at hm
    rcases hm with rfl | rfl | rfl | rfl | rfl<;>rfl
  have H:∀ p,p∈Zsk r gb->∀ {h':Zf} {j e:Nat} {K:Int->HP},Ext G h'->p.2.1[j]?=some e->(∀ h'',Ext h' h''->K e h'')->ZFb p.2.2 j K h':=fun p d h' j e K e' he k=>by
    have P:=hr.ext (f.trans e');have c:=Zj cg e';simp only [Zsk,Awr,Ayk,or_false] at d
    rcases d with rfl | rfl | rfl | rfl | rfl
    ·exact ZEt P hf c he k
    ·exact ZEs P hf c he k
    ·exact ZEr P hf c he k
    ·exact ZEq P c he k
    ·exact ZEp P hf c he k
  have aC:(Zsk r gb).length=5:=rfl;refine YP (fun p h'=>Ext G h'/\∃ i:Nat,p.1=i/\i<=5/\ZoE (r.errs.drop i) (i+1)=ZoE r.errs 1) (fun p _=>(5 - p.1).toNat) ⟨Ext.refl _,0,rfl,Ayg _,rfl⟩ ?_;rintro ⟨i_,u⟩ ah ⟨w,i,hi,ai,Q⟩;dsimp only at hi ⊢;subst hi;refine Zn (fun R=>?_) fun T=>?_
  ·have I:i<(Zsk r gb).length:=by omega
   obtain ⟨p,d⟩:∃ p,(Zsk r gb)[i]?=some p:=⟨(Zsk r gb)[i],Axy I⟩;have y:=C i p d;have J:=E i p d;refine Znn (c:=ZHb) (fun _=>rfl) (row.ext w) (by decide) d rfl fun b o g=>⟨_,g 0 _ rfl,_,g 1 _ rfl,_,g 2 _ rfl,ZJ fun aE aj ak aF=>ZNM aj (by show 3<=3;omega) (by show (true&&(true&&(Zr p.2.2&&true)))=true;rw [F i p d];rfl) fun U V an aG=>?_⟩;have A:Ext ah U:=ak.updS an fun j O=>by subst O;exact Aqo _
   have W:=f.trans (w.trans A);refine rI (Zb V rfl) (Zn (fun aH=>rI (Zb V rfl) (Za (Za (Za ?_)))) fun hle=>?_)
   ·rw [Zpl y,if_pos (by omega)] at Q
    have:r.whereE=(i+1,0,5):=by rw [Zp1];unfold Zre;rw [<- Q]
    rw [J];exact D U (i+1,0,5) this.symm W
   ·rw [Zpl y,if_neg (by omega)] at Q
    rw [Yr (by omega) (by omega)];exact ⟨⟨w.trans A,i+1,rfl,by omega,Q⟩,by omega⟩
  ·have:i=5:=by omega
   subst this;have l:ZoE r.errs 1=none:=by rw [<- Q];rfl
   have aA:=f.trans w;refine YP (fun p h'=>Ext G h'/\∃ i:Nat,p.1=i/\i<=5/\ZEC (r.errs.drop i) (i+1)=ZEC r.errs 1) (fun p _=>(5 - p.1).toNat) ⟨w,0,rfl,Ayg _,rfl⟩ ?_;rintro ⟨i_,u⟩ X ⟨L,i,hi,ai,t⟩;dsimp only at hi ⊢;subst hi;refine Zn (fun R=>?_) fun T=>Za (Za (Za ?_))
   ·have I:i<(Zsk r gb).length:=by omega
    obtain ⟨p,d⟩:∃ p,(Zsk r gb)[i]?=some p:=⟨(Zsk r gb)[i],Axy I⟩;have y:=C i p d;have J:=E i p d;have hm:=Axo d;refine Znn (c:=ZHb) (fun _=>rfl) (row.ext L) (by decide) d rfl fun b o g=>⟨_,g 0 _ rfl,_,g 1 _ rfl,_,g 2 _ rfl,ZJ fun aI ao aq aJ=>ZNM ao (by show 3<=3;omega) (by show (true&&(true&&(Zr p.2.2&&true)))=true;rw [F i p d];rfl) fun Y Z ar z35=>?_⟩;have M:Ext X Y:=aq.updS ar fun j O=>by subst O;exact Aqo _
    have m:=L.trans M
    have hlen:p.2.1.length<=256:=by
      have hn:∀ (gs:List (List Nat)) (k:Nat),ZoE gs k=none->∀ es,es∈gs->es.length<=256:=by
        intro gs
        induction gs with
        | nil=>intro k _ es h;cases h
        | cons a gs ih =>
          intro k D es C;simp only [ZoE] at D;split at D
          ·cases D
          ·rcases Awr.1 C with rfl | h
           ·omega
           ·exact ih _ D es h
      exact hn _ _ l _ (Axo y)
    rw [Zye y] at t;refine rI (Zb Z rfl) (YP (fun q h'=>Ext Y h'/\∃ j:Nat,q.1=j/\j<=p.2.1.length/\Za8 id (p.2.1.drop j) j=Za8 id p.2.1 0) (fun q _=>(p.2.1.length - q.1).toNat) ⟨Ext.refl _,0,rfl,Ayg _,rfl⟩ ?_);rintro ⟨j_,u⟩ aM ⟨B,j,O,aN,v⟩;dsimp only at O ⊢;subst O;have aa:=Zj Z B;refine Zn (fun R=>Za ?_) fun T=>?_
    ·have au:j<p.2.1.length:=by omega
     obtain ⟨e,he⟩:∃ e,p.2.1[j]?=some e:=⟨p.2.1[j],Axy au⟩;refine rV (n:=p.2.2) (Zb aa rfl) ?_;refine H p hm (m.trans B) he fun av N=>Za (ZqE (fun aO=>?_) fun heq=>?_)
     ·have aw:=Zj aa N
      refine rI (Zb aw rfl) (Za (Za (Za ?_)));rw [Zn5 he,if_neg (by omega)] at v;rw [<- v] at t
      have:r.whereE=(i+1,j,e):=by
        rw [Zp1];unfold Zre;rw [l,<- t];rfl
      rw [J];exact D av (i+1,j,e) this.symm (f.trans (m.trans (B.trans N)))
     ·rw [Zn5 he,if_pos (by omega)] at v
      rw [Yr (by omega) (by omega)];exact ⟨⟨B.trans N,j+1,rfl,by omega,v⟩,by omega⟩
    ·have:j=p.2.1.length:=by omega
     subst this;rw [List.drop_length] at v;rw [<- v] at t;rw [Yr (by omega) (by omega)];exact ⟨⟨m.trans B,i+1,rfl,by omega,t⟩,by omega⟩
   ·have:i=5:=by omega
    subst this
    have:r.whereE=(0,0,0):=by
      rw [Zp1];unfold Zre;rw [l,<- t];rfl
    exact D X (0,0,0) this.symm (f.trans L)
end
end Go.Proofs.YthbfgkphlmlihaaGreat.Rw
