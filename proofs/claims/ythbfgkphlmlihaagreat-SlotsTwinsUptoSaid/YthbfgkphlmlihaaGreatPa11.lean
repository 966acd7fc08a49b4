/- Breakers of any rule: Done, New. -/
import Derived.Test.YthbfgkphlmlihaaGreatPa10
set_option linter.unusedVariables false
set_option linter.unusedSimpArgs false
namespace Go.Proofs.YthbfgkphlmlihaaGreat
open Go Go.Fw
open Nat renaming reduceAdd->Nqa,reduceLT->Nqb,reduceLeDiff->Nqc,reduceEqDiff->Nqd,reduceMul->Nqe
def Zsn (bad:Bool):C6:=(0,0,1,(if bad=true then 1 else 0),0,0,())
theorem Rt.bad (bad:Bool):Rt (Zsn bad):=by
  cases bad
  ·exact ⟨by decide,by decide,by decide,by decide,by decide,by decide,.inl (by decide)⟩
  ·exact ⟨by decide,by decide,by decide,by decide,by decide,by decide,.inl (by decide)⟩
def Zjd (B:BkS) (at_ rt:Int) (a:Bool):Int :=
  if ZW B.la at_=2 then 2 else if ¬ (0<=rt/\rt<=1152921504606846976) then 2 else if ZW B.la at_≠0 then ZW B.la at_ else if a=true/\B.st≠3 then 4 else 0
theorem Zu0 (a b:Int):(ZW a b ==1)=false:=by
  unfold ZW;split
  ·rfl
  ·split
   ·rfl
   ·split<;>rfl
theorem Ztd {h:Zf} {a:Nat} {O:Nat->Prop} {B:BkS} {hw:WOK B.r} (k:BkR h a O B hw) (u:∀ j,O j->j<sz h) (c:0<=B.la) {K:Zf->Prop} (m:∀ h' O',BkR h' a O' { B with w:=⟨0,fun _=>z6⟩} hw->Upd O h h'->Zsl O O' h h'->K h'):Y6 (some ⟨a,0,none⟩) K h:=by
  obtain ⟨⟨wb,mb,d,f,g,v,x⟩,hl⟩:=k;unfold Y6 Zam;have n:=Zp d;refine Zg (rI (Zb d rfl) (Zg4 (k:=Zc4 _ hw) (Int.tmod_one _) ⟨by have:=hw.1;show 1<=B.r.2.2.2.2.2.1;omega,by have:=hw.2;show B.r.2.2.2.2.2.1<=_;omega⟩ fun h1 w1 i o=>Zg (Zbf (Zj d i) (show 0+7<12 by decide) rfl fun l p e s=>?_)));have s1:sz h1=sz h+2:=o;have s2:sz l=sz h1:=s;refine m l (fun j=>O j\/j=sz h\/j=sz h+1) ⟨⟨sz h+1,sz h,p,w1.congr (e.old _ (Zp w1.cells) (by show ¬ sz h+1=a;omega)) (e.old _ w1.mlt (by show ¬ sz h=a;omega)),.inl g,.inr (.inr rfl),.inr (.inl rfl)⟩,c⟩ ?_ ⟨fun j b=>?_,fun j b=> .inl b⟩
  ·exact (i.upd _).trans (e.mono fun j _ b=>by have t:j=a:=b;subst t;exact g)
  ·rcases b with q | q | q
   ·exact .inl q
   ·exact .inr ⟨by omega,by omega⟩
   ·exact .inr ⟨by omega,by omega⟩
noncomputable def BkS.done (B:BkS) (hw:WOK B.r) (at_ rt:Int) (failed a:Bool):BkS :=
  if Zjd B at_ rt a≠0 then B else
  let b:BkS:={ B with la:=at_ }
  if a=true then (if Zpv B rt failed=true then b.opened at_ else { b with st:=1,w:=⟨0,fun _=>z6⟩})
  else if B.st=1 then
    let w':=B.w.add (Zc4 _ hw) at_ (Zsn (Zpv B rt failed));let c:BkS:={ b with w:=w' }
    if Classical.choose (ZmS c (w'.sum (Zc4 _ hw) at_))=true then c.opened at_ else c
  else b
theorem Zuk (B:BkS) (hw:WOK B.r) (at_ rt:Int) (failed a:Bool):(B.done hw at_ rt failed a).r=B.r:=by
  unfold BkS.done BkS.opened;dsimp only;split
  ·rfl
  ·split
   ·split<;>rfl
   ·split
    ·split<;>rfl
    ·rfl
theorem Zv6 {B:BkS} {hw:WOK B.r} {h:Zf} {m:Nat} {O:Nat->Prop} (k:BkR h m O B hw) (hO:∀ j,O j->j<sz h) {at_ rt:Int} {failed d:Bool} {K:Int->Zf->Prop}
    (C:∀ h' O',BkR h' m O' (B.done hw at_ rt failed d) (by rw [Zuk];exact hw)->Upd O h h'->Zsl O O' h h'->K (Zjd B at_ rt d) h'):XH (some ⟨m,0,none⟩) at_ rt failed d K h:=by
  obtain ⟨⟨wb,mb,T,o,D,U,V⟩,hl⟩:=id k
  have no:∀ e,e≠0->Zjd B at_ rt d=e->K e h:=fun e h1 E=>by
    have:=C h O (by
      have e9:B.done hw at_ rt failed d=B:=by unfold BkS.done;rw [if_pos (by rw [E];exact h1)]
      simp only [e9];exact k) (Upd.refl _ _) ⟨fun j i=> .inl i,fun j i=>i⟩
    rwa [E] at this
  unfold XH Zcr;refine Za (Zls (fun _ y=>y=h/\Zjd B at_ rt d=0) ?_ fun Q F=>?_)
  rotate_left
  ·refine Zma T (Za (Zc (Zi (Zu0 _ _) (Z5 (fun q=>Za (no 2 (by decide) (by unfold Zjd;rw [if_pos q]))) fun q=>Zn (fun G=>Za (no 2 (by decide) ?_)) fun G=>Zc (Zn (fun q3=>Za (no 2 (by decide) ?_)) fun q3=>Zc (ZfO (fun q4=>Za (no _ q4 ?_)) fun q4=>⟨fun q5=>Zg (rI (Zb T rfl) (Zc (ZfO (fun q6=>Za (no 4 (by decide) ?_)) fun q6=>?_))),fun q5=>?_⟩))))))
   ·unfold Zjd;rw [if_neg q,if_pos (by omega)]
   ·unfold Zjd;rw [if_neg q,if_pos (by omega)]
   ·unfold Zjd;rw [if_neg q,if_neg (by omega),if_pos q4]
   ·unfold Zjd;rw [if_neg q,if_neg (by omega),if_neg (by omega),if_pos ⟨q5,q6⟩]
   ·exact F _ _ ⟨rfl,by unfold Zjd;rw [if_neg q,if_neg (by omega),if_neg (by omega),if_neg fun l=>l.2 q6]⟩
   ·exact F _ _ ⟨rfl,by unfold Zjd;rw [if_neg q,if_neg (by omega),if_neg (by omega),if_neg fun l=>by rw [q5] at l;cases l.1]⟩
  rintro _ y ⟨rfl,H⟩;rw [H] at C
  have az:ZW B.la at_=0:=by
    unfold Zjd at H;split at H
    ·cases H
    ·split at H
     ·cases H
     ·split at H
      ·rename_i q;exact absurd H q
      ·rename_i q;simpa using q
  obtain ⟨a0,a1,a2⟩:=Zew az
  have p:B.done hw at_ rt failed d=(if d=true then (if Zpv B rt failed=true then BkS.opened { B with la:=at_ } at_ else { B with la:=at_,st:=1,w:=⟨0,fun _=>z6⟩})
      else if B.st=1 then (if Classical.choose (ZmS { B with la:=at_,w:=B.w.add (Zc4 _ hw) at_ (Zsn (Zpv B rt failed))} ((B.w.add (Zc4 _ hw) at_ (Zsn (Zpv B rt failed))).sum (Zc4 _ hw) at_))=true then BkS.opened { B with la:=at_,w:=B.w.add (Zc4 _ hw) at_ (Zsn (Zpv B rt failed))} at_ else { B with la:=at_,w:=B.w.add (Zc4 _ hw) at_ (Zsn (Zpv B rt failed))}) else { B with la:=at_ }):=by
    unfold BkS.done;rw [if_neg fun l=>l H]
  refine Zg (Zbf T (show 0+11<12 by decide) rfl fun h1 c1 u1 z1=>?_);have z:obj h1 m=some (bkO { B with la:=at_ } wb):=c1;have s1:sz h1=sz y:=z1;have lw:=Zp o.cells;have lm:mb<sz y:=o.mlt;have lb:=Zp T
  have X:wb≠m:=fun e=>by
    have Y:=o.cells;rw [e,T] at Y;simp [b7L] at Y
  have Z:mb≠m:=fun e=>by
    obtain ⟨f,n,⟨es,c,hq,_⟩,_⟩:=o.map;have Y:obj y mb=_:=hq;rw [e,T] at Y;cases Y
  have w1:Zke (Zc4 _ hw) h1 wb mb B.w:=o.congr (u1.old wb lw X) (u1.old mb lm Z);have U1:Upd O y h1:=u1.mono fun j _ i=>by have l:j=m:=i;subst l;exact D
  have k1:BkR h1 m O { B with la:=at_ } hw:=⟨⟨wb,mb,z,w1,D,U,V⟩,Int.le_trans hl a2⟩;have aZ:∀ j,O j->j<sz h1:=fun j i=>by have:=hO j i;omega
  have g1:∀ {a:Zf} {O':Nat->Prop},Zsl O O' h1 a->Zsl O O' y a:=fun {a O'} g=>⟨fun j i=>by
    rcases g.1 j i with q | q
    ·exact .inl q
    ·exact .inr (by omega),g.2⟩
  refine Zx0 z (Zc ?_);have aC:Zpv { B with la:=at_ } rt failed=Zpv B rt failed:=rfl;rw [aC]
  have fin:∀ {B':BkS} {h':Zf} {O':Nat->Prop} (he:B.done hw at_ rt failed d=B') (aa:WOK B'.r),BkR h' m O' B' aa->Upd O y h'->Zsl O O' y h'->K 0 h':=fun {B' h' O'} he aa aD u g=>by
    subst he;exact C h' O' aD u g
  cases d with
  | true =>
    rw [if_pos rfl] at p;refine Zls (fun (s:Bool × Unit) t=>s=(Zpv B rt failed,())/\t=h1) ?_ fun Q F=>YC (Zc (F _ _ ⟨rfl,rfl⟩));rintro _ t ⟨rfl,N⟩;subst N;dsimp only;refine ⟨fun q=>Zpu z fun E c2 P=>Za ?_,fun q=>Zc (YC (Zg (Zbf z (show 0+8<12 by decide) rfl fun E c2 P z2=>?_)))⟩
    ·rw [if_pos q] at p
     have U2:Upd O y E:=U1.trans (P.mono fun j _ i=>by have l:j=m:=i;subst l;exact D);exact fin p hw ⟨⟨wb,mb,c2,w1.congr (P.old wb (by show wb<sz t;omega) X) (P.old mb (by show mb<sz t;omega) Z),D,U,V⟩,Int.le_trans hl a2⟩ U2 ⟨fun j i=> .inl i,fun j i=>i⟩
    ·rw [if_neg (by rw [q];decide)] at p
     have s2:sz E=sz t:=z2;have U2:Upd O y E:=U1.trans (P.mono fun j _ i=>by have l:j=m:=i;subst l;exact D);have k2:BkR E m O { B with la:=at_,st:=1 } hw:=⟨⟨wb,mb,c2,w1.congr (P.old wb (by show wb<sz t;omega) X) (P.old mb (by show mb<sz t;omega) Z),D,U,V⟩,Int.le_trans hl a2⟩;refine Ztd k2 (fun j i=>by have:=hO j i;omega) a0 fun h3 O3 k3 u3 g3=>Za (fin p hw k3 (U2.trans u3) ⟨fun j i=>?_,g3.2⟩)
     rcases g3.1 j i with q | q
     ·exact .inl q
     ·exact .inr (by omega)
  | false =>
    rw [if_neg (by decide)] at p;refine Zls (fun (s:Bool × Unit) t=>s=(false,())/\t=h1) ?_ fun Q F=>Zt (F _ _ ⟨rfl,rfl⟩);rintro _ t ⟨rfl,N⟩;subst N;dsimp only;refine Zt (Zc (Zt (Zg (rI (Zb z rfl) (Zc (Z5 (fun q=>?_) fun q=>Za ?_))))))
    ·have q':B.st=1:=q
     rw [if_pos q'] at p;refine ZJ fun E c2 e2 z2=>Zbe c2 fun h3 c3 u3 z3=>Zls (fun _ hz=>Ext t hz/\obj hz (sz t)=some (.cells (c6L (Zsn (Zpv B rt failed))).toArray 169 (0,0))) ?_ fun Q F=>?_
     rotate_left
     ·have e3:Ext t h3:=e2.then u3 fun k C=>by subst C;exact Aqo _
      refine ⟨fun G=>Zbf c3 (show 0+3<6 by decide) rfl fun h4 L u4 z4=>F _ _ ⟨e3.then u4 fun k C=>by subst C;exact Aqo _,?_⟩,fun G=>F _ _ ⟨e3,?_⟩⟩
      ·unfold Zsn;rw [if_pos G];exact L
      ·unfold Zsn;rw [if_neg (by rw [G];decide)];exact c3
     rintro _ h4 ⟨A,L⟩;have I:=Zj z A;have w4:Zke (Zc4 _ hw) h4 wb mb B.w:=w1.congr (ZG A (by omega)) (ZG A (by omega));refine Zg (rP (Zb I rfl) (rI (Zb L rfl) (rI (Zb L rfl) (rI (Zb L rfl) (rI (Zb L rfl) (rI (Zb L rfl) (rI (Zb L rfl) (ZJ fun h5 c5 e5 z5=>⟨ZZ (Zb (Zj I e5) rfl),?_⟩))))))));have R:=A.trans e5;have w5:Zke (Zc4 _ hw) h5 wb mb B.w:=w1.congr (ZG R (by omega)) (ZG R (by omega));have bk:sz t<=sz h4:=A.size;have aH:ZW B.w.last at_=0:=by unfold ZW;rw [if_neg (by omega),if_neg (by omega),if_neg (by omega)]
     refine ZlC w5 (x:=Zsn (Zpv B rt failed)) (Rt.bad _) (Zj1 c5 rfl) (fun b hb=>?_) fun h6 w6 u6=>?_
     ·have l:h4.size=b:=by simpa [Sl.blk] using hb
      have:sz h4=b:=l;omega
     rw [if_pos aH] at w6;have ah:obj h6 m=some (bkO { B with la:=at_ } wb):=(u6.old m (Zp (Zj I e5)) (by show ¬ (m=wb\/m=mb);exact fun l=>l.elim (Ne.symm X) (Ne.symm Z))).trans (Zj I e5);have ai:ZW (Win.add (Zc4 _ hw) B.w at_ (Zsn (Zpv B rt failed))).last at_=0:=by show ZW at_ at_=0;unfold ZW;rw [if_neg (by omega),if_neg (by omega),if_neg (by omega)]
     refine Zg (rP (Zb ah rfl) (Zq0 w6 fun h7 e7=>ZJ fun h8 c8 e8 z8=>?_));rw [if_pos ai];refine Zbe c8 fun l W u9 z9=>Za (rI (Zb W rfl) (rI (Zb W rfl) (rI (Zb W rfl) (rI (Zb W rfl) (rI (Zb W rfl) (rI (Zb W rfl) ?_))))));have aj:Ext h6 l:=(e7.trans e8).then u9 fun k C=>by subst C;exact e7.size
     have ak:obj l m=some (bkO { B with la:=at_,w:=B.w.add (Zc4 _ hw) at_ (Zsn (Zpv B rt failed))} wb):=Zj ah aj;have an:=Classical.choose_spec (ZmS { B with la:=at_,w:=B.w.add (Zc4 _ hw) at_ (Zsn (Zpv B rt failed))} ((B.w.add (Zc4 _ hw) at_ (Zsn (Zpv B rt failed))).sum (Zc4 _ hw) at_));generalize Classical.choose (ZmS { B with la:=at_,w:=B.w.add (Zc4 _ hw) at_ (Zsn (Zpv B rt failed))} ((B.w.add (Zc4 _ hw) at_ (Zsn (Zpv B rt failed))).sum (Zc4 _ hw) at_))=ov at an p
     have U6:Upd O y h6:=(U1.trans (R.upd _)).trans (u6.mono fun j _ i=>by
       rcases i with i | i
       ·subst i;exact U
       ·subst i;exact V)
     refine an ak fun bp ao=>?_;have v:=aj.trans ao;have J:=w6.congr (ZG v (Zp w6.cells)) (ZG v w6.mlt);have M:=Zj ak ao;have aq:=Zp J.cells;have ar:=J.mlt;refine ⟨fun G=>Zpu M fun aJ aK S=>Za ?_,fun G=>Za ?_⟩
     ·rw [if_pos G] at p
      have aL:Upd O y aJ:=(U6.trans (v.upd _)).trans (S.mono fun j _ i=>by have l:j=m:=i;subst l;exact D);exact fin p hw ⟨⟨wb,mb,aK,J.congr (S.old wb aq X) (S.old mb ar Z),D,U,V⟩,Int.le_refl _⟩ aL ⟨fun j i=> .inl i,fun j i=>i⟩
     ·rw [if_neg (by rw [G];decide)] at p
      exact fin p hw ⟨⟨wb,mb,M,J,D,U,V⟩,Int.le_refl _⟩ (U6.trans (v.upd _)) ⟨fun j i=> .inl i,fun j i=>i⟩
    ·have q':¬ B.st=1:=q
     rw [if_neg q'] at p;exact fin p hw k1 U1 ⟨fun j i=> .inl i,fun j i=>i⟩
theorem ZyP {h:Zf} {r:B7} (hw:WOK r) (p:∀ (h:Zf) (K:Int->Zf->Prop),(∀ h',Ext h h'->K 0 h')->Zdc r K h) {K:Option Addr->Int->Zf->Prop}
    (c:∀ h' g O',BkR h' g O' ⟨r,1,0,0,0,⟨0,fun _=>z6⟩⟩ hw->Ext h h'->(∀ j,O' j->sz h<=j/\j<sz h')->K (some ⟨g,0,none⟩) 0 h'):ZeP r K h:=by
  unfold ZeP ZiZ;refine ZJ fun h1 c1 i v=>Za (rS (Zb c1 rfl) (rI (Zb c1 rfl) (rI (Zb c1 rfl) (rI (Zb c1 rfl) (rI (Zb c1 rfl) (rI (Zb c1 rfl) (rI (Zb c1 rfl) ?_)))))));refine p _ _ fun b d=>Za (Zi rfl ?_);have a:=Zj c1 d;refine rS (Zb a rfl) (rI (Zb a rfl) (rI (Zb a rfl) (rI (Zb a rfl) (rI (Zb a rfl) (rI (Zb a rfl) (rI (Zb a rfl) (ZJ fun h3 l q z3=>?_)))))));have s:sz h<=sz b:=(i.trans d).size;unfold Y6 Zam;have w:sz h3=sz b+1:=z3;refine Zg (rI (Zb l rfl) (Zg4 (k:=Zc4 _ hw) (Int.tmod_one _) ⟨by have:=hw.1;show 1<=r.2.2.2.2.2.1;omega,by have:=hw.2;show r.2.2.2.2.2.1<=_;omega⟩ fun m e n z4=>Zg (Zbf (Zj l n) (show 0+7<12 by decide) rfl fun o t f z5=>Za ?_)));have u:sz m=sz h3+2:=z4;have x:sz o=sz m:=z5;refine c o (sz b) (fun j=>j=sz b\/j=sz h3\/j=sz h3+1) ⟨⟨sz h3+1,sz h3,t,e.congr ?_ ?_,.inl rfl,.inr (.inr rfl),.inr (.inl rfl)⟩,Int.le_refl _⟩ ?_ fun j y=>by omega
  ·exact f.old _ (Zp e.cells) (by show ¬ sz h3+1=sz b;omega)
  ·exact f.old _ e.mlt (by show ¬ sz h3=sz b;omega)
  ·exact (((i.trans d).trans q).trans n).then f fun k c=>by subst c;exact s
theorem Own.ptr_ {h:Zf} {base:Nat} {s:Sl} {size:Nat} {vs:List Value} (ho:Own h base s size vs) {o:Nat} (hl:o<vs.length):∃ b,s.ptr=some ⟨b,0,none⟩/\s.blk=some b:=by
  rcases ho.at_ with ⟨_,h0⟩ | ⟨b,c,e,a,_⟩
  ·have h1:=ho.cap
   have d:=ho.len;have:s.len=0:=by omega
   rw [this,Aqs] at d;omega
  ·exact ⟨b,a,by simp [Sl.blk,a]⟩
theorem Zan {α:Type} {g:α->List Value} {n:Nat} (b:∀ a,(g a).length=n) {h:Zf} {s:Sl} {l:List α} (c:Row h s n (l.flatMap g)) (d:0<n):s.len=l.length:=by
  have hlen:=c.len;rw [YV b] at hlen;exact (Ayf d hlen).symm
theorem ZrP {α:Type} {g:α->List Value} {n:Nat} (b:∀ a,(g a).length=n):∀ (l:List α) (i:Nat) (a:α),i<l.length ->
    (l.set i a).flatMap g=(l.flatMap g).take (i*n)++g a++(l.flatMap g).drop (i*n+n)
  | [],i,a,h=>by simp at h
  | x::l,0,a,_=>by
    rw [List.set_cons_zero,Aye,Aye,Aqs,List.take_zero,Ayj,Awb,<- b x,List.drop_left]
  | x::l,i+1,a,h=>by
    rw [List.set_cons_succ,Aye,Aye,ZrP b l i a (by simpa using h)];have c:(i+1)*n=(g x).length+i*n:=by rw [b,Aww];omega
    rw [c,List.take_length_add_append,Aqh,List.drop_length_add_append];simp
theorem Zqo {h:Zf} {base:Nat} {s:Sl} {size:Nat} {vs:List Value} (ho:Own h base s size vs) {b:Nat} (n:s.blk=some b) {o:Nat} {ws:List Value} (hl:o+ws.length<=vs.length) (hw:ws.all Zr=true) {K:Zf->Prop}
    (q:∀ h',Own h' base s size (vs.take o++ws++vs.drop (o+ws.length))->Upd (fun k=>s.blk=some k) h h'->sz h'=sz h->K h'):h.free b o ws.length/\ws.all Zr=true/\K (h.puts b o ws):=by
  have hlen:=ho.len;have g:=ho.cap
  rcases ho.at_ with ⟨p,_⟩ | ⟨x,c,e,p,r,y,t,d⟩
  ·simp [Sl.blk,p] at n
  ·have u:=n
   simp [Sl.blk,p] at n;subst n
   have j:o+ws.length<=c.size:=by
     have:=congrArg List.length d;simp at this;omega
   obtain ⟨z,v,l⟩:=ZlW (vs:=ws) (o:=o) y j;refine ⟨Zmg y j,hw,q _ ⟨?_,g,ho.big,.inr ⟨x,z,e,p,r,v,?_,?_⟩⟩ ((Upd.puts h x _ ws).mono fun k _ q=>by subst q;exact u) Ziq⟩
   ·simp;omega
   ·rw [<- t,<- Awa,l]
    simp;omega
   ·rw [l,d]
    have w:(c.toList.take (s.len*size)).length=s.len*size:=by rw [<- d];exact hlen
    apply Awx;intro i;simp only [List.getElem?_append,Aqf,Aqg,Awe,Ays,w,Awa];have h1:min o (s.len*size)=o:=by omega
    have A:min o c.size=o:=by omega
    rw [h1,A]
    by_cases f:i<o
    ·simp [f,show i<s.len*size from by omega,show i<o+ws.length from by omega]
    ·by_cases a:i<o+ws.length
     ·rw [if_pos a,if_neg f,if_pos (by omega),if_pos a,if_neg f]
     ·rw [if_neg a]
      by_cases m:i<s.len*size
      ·rw [if_pos (by omega),if_pos m,if_neg a]
      ·rw [if_neg (by omega),if_neg m]
theorem ZAB {α:Type} {g:α->List Value} {n:Nat} (c:∀ a,(g a).length=n) {h:Zf} {base:Nat} {s:Sl} {l:List α} (ho:Own h base s n (l.flatMap g)) {i:Nat} (hi:i<l.length) (f:0<n) {a:α} {ws:List Value} (hw:ws=g a) (d:ws.all Zr=true) {m:Int} (hm:m=(i:Int)) {K:Zf->Prop}
    (j:∀ h',Own h' base s n ((l.set i a).flatMap g)->Upd (fun k=>s.blk=some k) h h'->sz h'=sz h->K h'):YR s.ptr s.len m n fun b o=>sts h b o ws K:=by
  subst hw hm;have hl:=Zan c ho.row f;have hle:i*n+n<=l.length*n:=by rw [<- Aww];exact Aqz _ hi
  obtain ⟨b,p,q⟩:=Own.ptr_ ho (o:=i*n) (by rw [YV c];omega);refine ⟨b,0,p,by omega,by omega,?_⟩;rw [Awb,Aqu];refine Zqo ho q (by rw [YV c,c];omega) d fun h' e hu hz=>j h' ?_ hu hz;rw [ZrP c l i a hi];rw [c] at e;exact e
theorem ZrQ {α:Type} {g:α->List Value} {n:Nat} (b:∀ a,(g a).length=n):∀ (l:List α) (i:Nat) (a a':α) (j:Nat) (v:Value),l[i]?=some a->j<n->g a'=(g a).set j v->(l.flatMap g).set (i*n+j) v=(l.set i a').flatMap g
  | [],i,a,a',j,v,hi,_,_=>by simp at hi
  | x::l,0,a,a',j,v,hi,c,he=>by
    simp at hi;subst hi;rw [List.set_cons_zero,Aye,Aye,List.set_append,if_pos (by rw [b];omega),Aqs,Awb,he]
  | x::l,i+1,a,a',j,v,hi,c,he=>by
    rw [List.set_cons_succ,Aye,Aye,List.set_append,if_neg (by rw [b,Aww];omega),<- ZrQ b l i a a' j v (by simpa using hi) c he];congr 2;rw [b,Aww];omega
theorem Zt2 {α:Type} {g:α->List Value} {n:Nat} (p:∀ a,(g a).length=n) {h:Zf} {base:Nat} {s:Sl} {l:List α} (ho:Own h base s n (l.flatMap g)) {i:Nat} {a a':α} (hi:l[i]?=some a) {j:Nat} (q:j<n) {v:Value} (hv:g a'=(g a).set j v) (c:Zr v=true) {b:Nat} (r:s.blk=some b) {o:Nat} (e:o=i*n+j) {K:Zf->Prop}
    (t:∀ h',Own h' base s n ((l.set i a').flatMap g)->Upd (fun k=>s.blk=some k) h h'->sz h'=sz h->K h'):st h b o v K:=by
  subst e;have f:=Zbw hi;have hle:i*n+n<=l.length*n:=by rw [<- Aww];exact Aqz _ f
  have d:=YV p l
  obtain ⟨h1,u,h3⟩:=Zqo ho r (o:=i*n+j) (ws:=[v]) (by rw [d];simp only [Aqj,Ayd];omega) (by simp [c]) (K:=K) fun h' m hu hz=>t h' (by
    rw [<- ZrQ p l i a a' j v hi q hv,List.set_eq_take_append_cons_drop,if_pos (by rw [d];omega)]
    simpa using m) hu hz
  exact ⟨h1.1.1,h1.1.2,c,h3⟩
def pk (r c:Int):Value:= .agg #[iv r,iv c]
theorem Zxi {r c b d:Int} (h:pk r c=pk b d):r=b/\c=d:=by
  unfold pk at h;injection h with h;injection h with h;injection h with h1 a;injection a with a _;exact ⟨Zpo h1,Zpo a⟩
structure ZHv (es:Array MapEntry) (n:Int->Int->Int):Prop where
  to_:∀ e,e∈es.toList->∃ r c,e.key=pk r c/\e.val=iv (n r c)
  of:∀ r c,n r c≠0->∃ e,e∈es.toList/\e.key=pk r c
def Zq6 (h:Zf) (mb:Nat) (n:Int->Int->Int):Prop:=∃ es c,h[mb]?=some (.map es c)/\MapKept.Stamped es c/\ZHv es n
def Zwc (n:Int->Int->Int) (r c x:Int):Int->Int->Int:=fun a b=>if a=r/\b=c then x else n a b
theorem ZHv.key {es:Array MapEntry} {n:Int->Int->Int} (he:ZHv es n):∀ x,x∈es.toList->Zkf [.int .i64,.int .i64] x.key:=fun x a=>by
  obtain ⟨r,c,b,_⟩:=he.to_ x a;exact ⟨[iv r,iv c],b,rfl,rfl,trivial⟩
theorem ZBf (r c a b:Int):Zmj [iv r,iv c] (pk a b)=(decide (r=a)&&decide (c=b)):=by
  unfold Zmj pk;simp only [ZeS,Zjc];cases h1:decide (r=a)<;>cases d:decide (c=b)<;>simp_all
theorem Zie (r c:Int):∀ (l:List MapEntry) (i:Nat),(∀ e,e∈l->∃ r c,e.key=pk r c) ->
    (Zhn [iv r,iv c] l i=none/\∀ e,e∈l->e.key≠pk r c)\/∃ j e,Zhn [iv r,iv c] l i=some (i+j,e.val)/\l[j]?=some e/\e.key=pk r c
  | [],i,_=> .inl ⟨rfl,fun e he=>by cases he⟩
  | e::l,i,h=>by
    obtain ⟨g,k,a⟩:=h e (List.mem_cons_self ..);unfold Zhn;rw [a,ZBf]
    rcases Decidable.em (r=g/\c=k) with ⟨h1,n⟩ | m
    ·subst h1 n
     right;refine ⟨0,e,?_,rfl,a⟩;simp
    ·have:(decide (r=g)&&decide (c=k))=false:=by
       rw [<- Bool.decide_and];exact decide_eq_false m
     rw [this];simp only [cond_false]
     rcases Zie r c l (i+1) (fun e he=>h e (Aws _ he)) with ⟨b,d⟩ | ⟨j,f,b,d,o⟩
     ·refine .inl ⟨b,fun f he=>?_⟩
      rcases Awr.1 he with rfl | he
      ·rw [a]
       intro p;obtain ⟨q,s⟩:=Zxi p;exact m ⟨q.symm,s.symm⟩
      ·exact d f he
     ·exact .inr ⟨j+1,f,by rw [b];congr 2;omega,d,o⟩
theorem ZHv.find {es:Array MapEntry} {n:Int->Int->Int} (he:ZHv es n) (r c:Int) :
    (Zhn [iv r,iv c] es.toList 0=none/\n r c=0/\∀ e,e∈es.toList->e.key≠pk r c)\/∃ j e,Zhn [iv r,iv c] es.toList 0=some (j,e.val)/\es.toList[j]?=some e/\e.key=pk r c/\e.val=iv (n r c):=by
  rcases Zie r c es.toList 0 (fun e hm=>by obtain ⟨r,c,a,_⟩:=he.to_ e hm;exact ⟨r,c,a⟩) with ⟨h1,b⟩ | ⟨j,e,h1,b,h3⟩
  ·refine .inl ⟨h1,?_,b⟩
   rcases Decidable.em (n r c=0) with h0 | h0
   ·exact h0
   ·obtain ⟨e,hm,a⟩:=he.of r c h0
    exact absurd a (b e hm)
  ·obtain ⟨d,f,a,hv⟩:=he.to_ e (Axo b)
   rw [h3] at a;obtain ⟨rfl,rfl⟩:=Zxi a;rw [Awb] at h1;exact .inr ⟨j,e,h1,b,h3,hv⟩
theorem Zq6.congr {h h':Zf} {mb:Nat} {n:Int->Int->Int} (hm:Zq6 h mb n) (he:h'[mb]?=h[mb]?):Zq6 h' mb n:=by
  obtain ⟨es,c,a,r⟩:=hm;exact ⟨es,c,he.trans a,r⟩
theorem Zq6.lt {h:Zf} {mb:Nat} {n:Int->Int->Int} (hm:Zq6 h mb n):mb<sz h:=by
  obtain ⟨es,c,a,r⟩:=hm;exact Zr7 a
theorem Zq6.new {h:Zf}:Zq6 (h.push (.map #[] 0)) (sz h) (fun _ _=>0) :=
  ⟨#[],0,Zc6,MapKept.stamped_empty 0,fun e he=>by simp at he,fun r c h=>(h rfl).elim⟩
theorem Zq6.get {h:Zf} {mb:Nat} {n:Int->Int->Int} (hm:Zq6 h mb n) (r c:Int) {K:Int->Prop} (a:K (n r c)):Zcf [(.int .i64),(.int .i64)] h (some mb) [iv r,iv c] fun x=>asI (x.getD (iv 0)) .i64 K:=by
  obtain ⟨es,cl,f,hs,he⟩:=hm;refine ⟨(fun e=>by cases e),fun b e=>?_⟩;cases e;refine ⟨es,cl,f,he.key,?_⟩
  rcases he.find r c with ⟨h1,d,_⟩ | ⟨j,e,h1,d,h3,g⟩
  ·rw [h1]
   exact ⟨0,rfl,by rw [d] at a;exact a⟩
  ·rw [h1]
   exact ⟨n r c,g,a⟩
theorem Zq6.put {h:Zf} {mb:Nat} {n:Int->Int->Int} (hm:Zq6 h mb n) (r c x:Int) {K:Zf->Prop}
    (B:∀ h',Zq6 h' mb (Zwc n r c x)->Upd (· = mb) h h'->sz h'=sz h->K h'):ZhL [(.int .i64),(.int .i64)] h (some mb) [iv r,iv c] (iv x) K:=by
  have p:=hm.lt;obtain ⟨es,cl,C,hs,he⟩:=hm;refine ⟨mb,es,cl,rfl,C,he.key,?_⟩
  rcases he.find r c with ⟨h1,u,h3⟩ | ⟨j,e,h1,u,h3,F⟩
  ·rw [h1]
   refine B _ ⟨es.push { key:=pk r c,val:=iv x,born:=cl },cl+1,Zjo p,MapKept.stamped_push hs fun y a=>h3 y a,fun y a=>?_,fun f g k=>?_⟩ Zg0 (by unfold sz;simp)
   ·simp only [Array.toList_push,Axx,Axs] at a
    rcases a with a | rfl
    ·obtain ⟨f,g,b,hv⟩:=he.to_ y a
     refine ⟨f,g,b,?_⟩;rw [hv];unfold Zwc;rw [if_neg];rintro ⟨rfl,rfl⟩;exact h3 y a b
    ·exact ⟨r,c,rfl,by unfold Zwc;rw [if_pos ⟨rfl,rfl⟩]⟩
   ·simp only [Array.toList_push,Axx,Axs]
    unfold Zwc at k;split at k
    ·rename_i v
     obtain ⟨rfl,rfl⟩:=v;exact ⟨_,.inr rfl,rfl⟩
    ·obtain ⟨y,a,d⟩:=he.of f g k
     exact ⟨y,.inl a,d⟩
  ·rw [h1]
   have l:es[j]?=some e:=by simpa using u
   have uniq:∀ i y,es.toList[i]?=some y->y.key=pk r c->i=j:=by
     intro i y hi a;have w:=hs.2.2;have q:(es.toList.map (·.key))[i]?=some (pk r c):=by rw [Awy,hi];simp [a]
     have s:(es.toList.map (·.key))[j]?=some (pk r c):=by rw [Awy,u];simp [h3]
     obtain ⟨D,q⟩:=Ayh.1 q;obtain ⟨E,s⟩:=Ayh.1 s;exact (List.getElem_inj w).1 (q.trans s.symm)
   refine B _ ⟨es.modify j fun y=>{ y with key:=pk r c,val:=iv x },cl,Zjo p,MapKept.stamped_modify hs j _ (fun y _=>rfl) (fun y _ a=>?_),fun y a=>?_,fun f g k=>?_⟩ Zg0 (by unfold sz;simp)
   ·rw [l] at a
    cases a;exact h3.symm
   ·obtain ⟨i,hi⟩:=Ayi a
    rw [Axp,Aqi] at hi
    by_cases o:j=i
    ·subst o
     rw [if_pos rfl,l] at hi;simp only [Aqx,Awh] at hi;subst hi;exact ⟨r,c,rfl,by unfold Zwc;rw [if_pos ⟨rfl,rfl⟩]⟩
    ·rw [if_neg o] at hi
     have t:es.toList[i]?=some y:=by simpa using hi
     obtain ⟨f,g,b,hv⟩:=he.to_ y (Axo t);refine ⟨f,g,b,?_⟩;rw [hv];unfold Zwc;rw [if_neg];rintro ⟨rfl,rfl⟩;exact o (uniq i y t b).symm
   ·unfold Zwc at k
    split at k
    ·rename_i v
     obtain ⟨rfl,rfl⟩:=v;refine ⟨{ e with key:=pk f g,val:=iv x },Axo (i:=j) ?_,rfl⟩;rw [Axp,Aqi,if_pos rfl,l];rfl
    ·rename_i z
     obtain ⟨y,a,d⟩:=he.of f g k;obtain ⟨m,hm⟩:=Ayi a;refine ⟨y,Axo (i:=m) ?_,d⟩;rw [Axp,Aqi,if_neg]
     ·simpa using hm
     ·intro A
      subst A;rw [u] at hm;cases hm;rw [h3] at d;obtain ⟨q,s⟩:=Zxi d;exact z ⟨q.symm,s.symm⟩
theorem ZrR {α:Type} {p:α->Bool}:∀ {l:List α} {i:Nat} {a:α},l[i]?=some a->p a=true->(∀ (j:Nat) (b:α),j<i->l[j]?=some b->p b=false)->l.findIdx? p=some i
  | [],i,a,h,_,_=>by simp at h
  | x::l,0,a,h,c,_=>by
    simp at h;subst h;simp [List.findIdx?_cons,c]
  | x::l,i+1,a,h,c,d=>by
    have e:=d 0 x (by omega) (by simp);rw [List.findIdx?_cons,e,ZrR (l:=l) (i:=i) (by simpa using h) c fun j b g f=>d (j+1) b (by omega) (by simpa using f)];rfl
theorem Zya {α:Type} {p:α->Bool} {l:List α} (a:∀ (j:Nat) (b:α),l[j]?=some b->p b=false):l.findIdx? p=none:=by
  rw [List.findIdx?_eq_none_iff];intro x c;obtain ⟨j,d⟩:=Ayi c;exact a j x d
def ixV {α:Type} (p:α->Bool) (l:List α):Int:=match l.findIdx? p with
  | some i=>i
  | none=> -1
theorem ZqB {α:Type} {p:α->Bool} {l:List α} {i:Nat} (h:l.findIdx? p=some i):ixV p l=i:=by unfold ixV;rw [h]
theorem ZqC {α:Type} {p:α->Bool} {l:List α} (h:l.findIdx? p=none):ixV p l = -1:=by unfold ixV;rw [h]
theorem Zj9 {α:Type} {g:α->List Value} {n:Nat} (x:∀ a,(g a).length=n) {h:Zf} {s:Sl} {l:List α} (r:Row h s n (l.flatMap g)) (y:0<n) {p:α->Bool} {K:Int->Zf->Prop}
    {tst:(Bool->Zf->Prop)->Nat->Nat->Zf->Prop}
    (D:∀ (i:Nat) (a:α) (b o:Nat) (c:Zf) (Q:Bool->Zf->Prop),l[i]?=some a->Ext h c->(∀ j v,(g a)[j]?=some v->ZA (o+j) (obj c b)=some v)->(∀ h',Ext h h'->Q (p a) h')->tst Q b o c)
    (z:∀ h',Ext h h'->K (ixV p l) h') :
    Zd 0 fun _=>Yj (σ:=Int × Unit) (fun E s2 h3 =>
     (fun (s8:Int)=>Zm (decide (s8<(s.len:Int))) (Zd s8 fun i=>YR s.ptr s.len i n fun b o=>tst (fun t6 A=>Zm t6 (Zd i fun t8=>K t8 A) (E (IntKind.wrap .i64 (s8+1),()) A)) b o h3) (Zd (-1) fun t9=>K t9 h3)) s2.1) (0,()) h:=by
  have hl:=Zan x r y;have B:=r.big;have C:=r.cap;refine Za (YP (fun st c=>∃ i:Nat,st=((i:Int),())/\i<=l.length/\Ext h c/\∀ (j:Nat) (b:α),j<i->l[j]?=some b->p b=false) (fun st _=>(s.len - st.1).toNat) ⟨0,rfl,by omega,Ext.refl _,fun j b F=>by omega⟩ ?_);rintro _ c ⟨i,rfl,hi,he,u⟩;dsimp only;refine Zn (fun q=>?_) fun q=>?_
  ·obtain ⟨a,t⟩:∃ a,l[i]?=some a:=⟨_,Axy (by omega)⟩
   obtain ⟨b,o,d,_,f,e⟩:=ZbB x (r.ext he) t y;refine Za (f rfl (D i a b o c _ t he e fun h' k=>?_))
   cases m:p a with
   | true =>
     refine YC (Za ?_);rw [<- ZqB (ZrR t m u)];exact z h' k
   | false =>
     refine Zt ⟨⟨i+1,?_,by omega,k,fun j b F d=>?_⟩,?_⟩
     ·rw [Yr (by omega) (by omega)];rfl
     ·rcases (show j<i\/j=i by omega) with w | rfl
      ·exact u j b w d
      ·rw [t] at d;cases d;exact m
     ·rw [Yr (by omega) (by omega)]
      omega
  ·refine Za ?_
   rw [<- ZqC (Zya (p:=p) (l:=l) fun j b d=>u j b (by have:=Zbw d;omega) d)];exact z c he
theorem ZBt {b c n:Nat}:Zjg (some ⟨b,0,none⟩) 0 c n=some ⟨b,0,none⟩:=by
  unfold Zjg;split
  ·rfl
  ·simp [Addr.add]
theorem ZrO {α:Type} {g:α->List Value} {n:Nat} (b:∀ a,(g a).length=n):∀ (l:List α) (k:Nat),(l.take k).flatMap g=(l.flatMap g).take (k*n)
  | [],k=>by simp
  | x::l,0=>by simp
  | x::l,k+1=>by
    rw [List.take_succ_cons,Aye,Aye,ZrO b l k,show (k+1)*n=(g x).length+k*n from by rw [b,Aww];omega,List.take_length_add_append]
theorem Zw1 {s:Sl} {h:Zf} {base n k:Nat} {vs:List Value} (ho:Own h base s n vs):(⟨Zjg s.ptr 0 s.cap n,k,s.cap⟩:Sl).blk=s.blk:=by
  rcases ho.at_ with ⟨a,h0⟩ | ⟨b,c,e,a,d,i,f,g⟩
  ·show (Zjg s.ptr 0 s.cap n).map (·.block)=s.ptr.map (·.block)
   rw [a];unfold Zjg;split<;>rfl
  ·show (Zjg s.ptr 0 s.cap n).map (·.block)=s.ptr.map (·.block)
   rw [a,ZBt]
theorem ZuV {zs:List Value} (h:zs.all Zr=true) (n:Nat):(XQ zs n).all Zr=true:=by
  unfold XQ;rw [List.all_flatten,Axb];intro x a;rw [List.eq_of_mem_replicate a];exact h
theorem ZDP {α:Type} {g:α->List Value} {n:Nat} (f:∀ a,(g a).length=n) {h:Zf} {base:Nat} {s:Sl} {l:List α} (ho:Own h base s n (l.flatMap g)) (x:0<n) {k:Nat} (y:k<=l.length) {m:Int} (hm:m=(k:Int)) {zs:List Value} (hz:zs.length=n) (j:zs.all Zr=true) {K:Sl->Zf->Prop}
    (z:∀ t h',Own h' base t n ((l.take k).flatMap g)->t.blk=s.blk->Upd (fun k=>s.blk=some k) h h'->sz h'=sz h->K t h') :
    slc s.ptr s.cap n m s.len s.cap fun t=>ZE9 t zs h fun h'=>slc s.ptr s.cap n 0 m s.cap fun t'=>K t' h':=by
  subst hm;have hl:=Zan f ho.row x;have A:=ho.cap;refine ⟨by omega,by omega,by omega,Int.le_refl _,?_⟩;simp only [Aqu,Int.toNat_zero,Nat.sub_zero]
  have fin:∀ h',Own h' base s n ((l.take k).flatMap g++(XQ zs (s.len - k)))->Upd (fun k=>s.blk=some k) h h'->sz h'=sz h->slc s.ptr s.cap n 0 k s.cap fun t'=>K t' h':=fun h' d hu i=>by
    refine ⟨Int.le_refl _,by omega,by omega,Int.le_refl _,?_⟩;simp only [Aqu,Int.toNat_zero,Nat.sub_zero];refine z _ h' ?_ (Zw1 ho) hu i;refine ⟨?_,by show k<=s.cap;omega,ho.big,?_⟩
    ·rw [YV f,Ays,Nat.min_eq_left y]
    ·rcases d.at_ with ⟨p,h0⟩ | ⟨b,c,e,p,r,u,v,w⟩
     ·left
      refine ⟨?_,h0⟩;show Zjg s.ptr 0 s.cap n=none;rw [p];unfold Zjg;split<;>rfl
     ·right
      refine ⟨b,c,e,?_,r,u,v,?_⟩
      ·show Zjg s.ptr 0 s.cap n=_
       rw [p];exact ZBt
      ·have:=congrArg (List.take (k*n)) w
       rw [List.take_left' (by rw [YV f,Ays,Nat.min_eq_left y]),List.take_take,Nat.min_eq_left (Aqz _ (by omega))] at this;exact this
  by_cases q:k=s.len
  ·refine .inr (.inl ⟨by simp [q],fin h ?_ (Upd.refl _ _) rfl⟩)
   rw [q,Nat.sub_self,Awd (by omega)];simpa [XQ] using ho
  ·obtain ⟨b,p,u⟩:=Own.ptr_ ho (o:=k*n) (by rw [YV f];exact Nat.mul_lt_mul_of_pos_right (by omega) x)
   refine .inr (.inr ⟨b,k*n,?_,?_⟩)
   ·show Zjg s.ptr k s.cap n=_
    rw [p];unfold Zjg;rw [if_neg (by omega)];simp [Addr.add];exact fun h=>h.symm
   ·refine Zqo ho u ?_ (ZuV j _) fun h' d hu i=>fin h' ?_ hu i
    ·rw [YV f,ZfG,hz,<- Aqy]
     dsimp only;exact Aqz _ (by omega)
    ·dsimp only at d
     rw [ZfG,hz,<- Aqy,show k+(s.len - k)=l.length from by omega,List.drop_of_length_le (by rw [YV f];exact Aqo _),Ayt,<- ZrO f] at d;exact d
theorem Ztj {α:Type} {g:α->List Value} {n:Nat} (P:∀ a,(g a).length=n) {h:Zf} {base:Nat} {s:Sl} {l:List α} (ho:Own h base s n (l.flatMap g)) (S:0<n) {p:α->Bool} {zs:List Value} (hz:zs.length=n) (I:zs.all Zr=true) (V:∀ a,(g a).all Zr=true) {i0:Nat} (W:i0<l.length)
    (X:∀ (j:Nat) (a:α),j<i0->l[j]?=some a->p a=false) (Y:∀ a,l[i0]?=some a->p a=true) {Good:Zf->Prop} (e:∀ h1 h2,Good h1->Upd (fun k=>s.blk=some k) h1 h2->Good h2)
    {tst:((Bool->Nat->Zf->Prop)->Nat->Nat->Zf->Prop)} {wr:Nat->(List Value->Prop)->Zf->Prop} {K:Sl->Zf->Prop}
    (ht:∀ (a:α) (b o:Nat) (f:Zf) (Q:Bool->Nat->Zf->Prop),Good f->b<sz f->(∀ j v,(g a)[j]?=some v->ZA (o+j) (obj f b)=some v) ->
      (∀ h' c,Good h'->Ext f h'->(∀ R:List Value->Prop,R (g a)->wr c R h')->Q (p a) c h')->tst Q b o f)
    (Z:Good h) (aD:∀ k,s.blk=some k->k<sz h)
    (hK:∀ t h',Own h' base t n ((l.filter fun a=> !p a).flatMap g)->(t.blk=s.blk\/t.blk=none)->Upd (fun k=>s.blk=some k) h h'->Good h'->K t h') :
    Yj (σ:=Int × Int × Unit) (fun J4 s5 h6 =>
     (fun (i2:Int) (T:Int)=>Zm (decide (T<(s.len:Int))) (YR s.ptr s.len T n fun b o=>tst (fun t18 c C =>
         Zm (!t18) (wr c (fun ws=>YR s.ptr s.len i2 n fun aa ae=>sts C aa ae ws fun af=>Zd (IntKind.wrap .i64 (i2+1)) fun i27=>Zd (IntKind.wrap .i64 (T+1)) fun D=>J4 (i27,D,()) af) C)
          (Zd (IntKind.wrap .i64 (T+1)) fun ag=>J4 (i2,ag,()) C)) b o h6)
       (slc s.ptr s.cap n i2 s.len s.cap fun t30=>ZE9 t30 zs h6 fun ah=>slc s.ptr s.cap n 0 i2 s.cap fun t32=>K t32 ah)) s5.1 s5.2.1) ((i0:Int),((i0+1:Nat):Int),()) h:=by
  have hl:=Zan P ho.row S;have aw:=ho.big;have ax:=ho.cap
  refine Zbd (fun st f=>∃ (i j:Nat) (m:List α),st=((i:Int),(j:Int),())/\i<j/\j<=l.length/\m.length=l.length/\Own f base s n (m.flatMap g)/\Upd (fun k=>s.blk=some k) h f/\Good f /\
      m.take i=(l.take j).filter (fun a=> !p a)/\m.drop j=l.drop j) (fun st _=>(s.len - st.2.1).toNat) ⟨i0,i0+1,l,rfl,by omega,by omega,rfl,ho,Upd.refl _ _,Z,?_,rfl⟩ ?_
  ·obtain ⟨a,J⟩:∃ a,l[i0]?=some a:=⟨_,Axy W⟩
   rw [Aym,J,List.filter_append]
   have e1:(l.take i0).filter (fun a=> !p a)=l.take i0:=by
     rw [List.filter_eq_self];intro x hx;obtain ⟨j,U⟩:=Ayi hx;rw [Aqf] at U;split at U
     ·rw [X j x (by assumption) U];rfl
     ·cases U
   have e2:(some a).toList.filter (fun a=> !p a)=[]:=by simp [Y a J]
   rw [e1,e2,Ayt]
  rintro _ f ⟨i,j,m,rfl,aH,aI,L,u,hu,A,E,M⟩ Q hQ;dsimp only;refine Zn (fun q=>?_) fun q=>?_
  ·have w:IntKind.wrap .i64 ((j:Int)+1)=((j+1:Nat):Int):=by rw [Yr (by omega) (by omega)];rfl
   have aj:IntKind.wrap .i64 ((i:Int)+1)=((i+1:Nat):Int):=by rw [Yr (by omega) (by omega)];rfl
   obtain ⟨a,J⟩:∃ a,l[j]?=some a:=⟨_,Axy (by omega)⟩
   have ak:m[j]?=some a:=by
     have:=congrArg (fun x=>x[0]?) M;simp only [Aqg,Axi] at this;rw [this,J]
   obtain ⟨b,o,hb,an,N,F⟩:=ZbB P u.row ak S;refine N rfl (ht a b o f _ A an F fun h' c B G ao=>?_);have O:=u.congr (h':=h') fun b hb _ _=>G.old b (u.lt hb).2
   have step:(l.take (j+1)).filter (fun a=> !p a)=(l.take j).filter (fun a=> !p a)++(if p a then [] else [a]):=by
     rw [Aym,J,List.filter_append];congr 1;cases y:p a<;>simp [y]
   have dr:m.drop (j+1)=l.drop (j+1):=by
     have:=congrArg (List.drop 1) M;simpa [Axn] using this
   cases y:p a with
   | false =>
     refine YC ?_
     have fin:∀ z,Own z base s n ((m.set i a).flatMap g)->Upd (fun k=>s.blk=some k) h' z->sz z=sz h'->Zd (IntKind.wrap .i64 ((i:Int)+1)) fun i27=>Zd (IntKind.wrap .i64 ((j:Int)+1)) fun D=>Q (i27,D,()) z:=fun z r d H=>by
       refine Za (Za (hQ _ _ ⟨i+1,j+1,m.set i a,?_,by omega,by omega,by simpa using L,r,(hu.trans (G.upd _)).trans d,e _ _ B d,?_,?_⟩ ?_))
       ·rw [aj,w]
       ·rw [step,y]
        simp only [Aqc,if_false];rw [<- E,Aym,Aqm (Aqo _),Ayu (by omega)];rfl
       ·rw [Aqn (by omega),dr]
       ·rw [w];dsimp only;omega
     exact ao _ (ZAB P O (i:=i) (by omega) S (a:=a) rfl (V a) rfl fun z r d H=>fin z r d H)
   | true =>
     refine Zt (Za (hQ _ _ ⟨i,j+1,m,?_,by omega,by omega,L,O,hu.trans (G.upd _),B,?_,dr⟩ ?_))
     ·rw [w]
     ·rw [step,y,E];simp
     ·rw [w];dsimp only;omega
  ·have aB:j=l.length:=by omega
   have e1:m.take i=l.filter (fun a=> !p a):=by rw [E,Awd (by omega)]
   refine ZDP P u S (k:=i) (by omega) rfl hz I fun t z r aq d H=>hK t z ?_ (.inl aq) (hu.trans d) (e _ _ A d);rw [<- e1];exact r
structure Bk where
  at_:Int
  total:Int
  n:Int->Int->Int
structure Sk where
  d:Int
  seed:Int
  last:Int
  bs:List Bk
structure Bk.OK (d:Int) (b:Bk):Prop where
  step:∃ k:Int,0<=k/\b.at_=d*k
  total:0<=b.total/\b.total<=4611686018427387904
  n:∀ r c,0<=b.n r c/\b.n r c<=4611686018427387904
structure Sk.OK (s:Sk):Prop where
  d:1<=s.d/\s.d<=360000000
  lo:0<=s.last
  hi:s.last<=1152921504606846976
  bs:∀ b,b∈s.bs->b.OK s.d/\b.at_<=s.last
  up:s.bs.Pairwise fun a b=>a.at_<b.at_
  few:s.bs.length<=12
abbrev B3:=Bk × Nat
def b3L (x:B3):List Value:=[iv x.1.at_,iv x.1.total,.map (some x.2)]
theorem ZfF (x:B3):(b3L x).length=3:=rfl
theorem Zyq (x:B3):(b3L x).all Zr=true:=by simp [b3L,Zd4,ZsX]
abbrev skO (s:Sk) (sl:Sl):Obj:= .cells [iv (s.d*10),iv 10,iv 4,iv 256,.int .u64 s.seed,slV sl,iv s.last].toArray 293 (0,0)
structure SkR (h:Zf) (O:Nat->Prop) (wb:Nat) (sl:Sl) (lb:List B3) (s:Sk):Prop where
  ok:s.OK
  cells:obj h wb=some (skO s sl)
  own:Own h 0 sl 3 (lb.flatMap b3L)
  bs:lb.map (·.1)=s.bs
  nd:(lb.map (·.2)).Nodup
  maps:∀ x,x∈lb->Zq6 h x.2 x.1.n/\O x.2
  tw:O wb
  ts:∀ k,sl.blk=some k->O k
  ne:sl.blk≠some wb
  mt:∀ x,x∈lb->sl.blk≠some x.2
  lt:∀ k,O k->k<sz h
theorem SkR.mw {h:Zf} {O:Nat->Prop} {wb:Nat} {sl:Sl} {lb:List B3} {s:Sk} (hs:SkR h O wb sl lb s) {x:B3} (b:x∈lb):x.2≠wb:=fun e=>by
  obtain ⟨⟨es,c,hm,_⟩,_⟩:=hs.maps x b;have a:=hs.cells;rw [<- e,show obj h x.2=h[x.2]? from rfl,hm] at a;cases a
theorem SkR.congr {h h':Zf} {O O':Nat->Prop} {wb:Nat} {sl:Sl} {lb:List B3} {s:Sk} (hs:SkR h O wb sl lb s) (hT:∀ k,O k->O' k) (hl:∀ k,O' k->k<sz h') (he:∀ k,O k->h'[k]?=h[k]?):SkR h' O' wb sl lb s :=
  ⟨hs.ok,(he wb hs.tw).trans hs.cells,hs.own.congr fun b c _ _=>he b (hs.ts b c),hs.bs,hs.nd,fun x a=>⟨(hs.maps x a).1.congr (he _ (hs.maps x a).2),hT _ (hs.maps x a).2⟩,hT _ hs.tw,fun k d=>hT _ (hs.ts k d),hs.ne,hs.mt,hl⟩
theorem SkR.ext {h h':Zf} {O:Nat->Prop} {wb:Nat} {sl:Sl} {lb:List B3} {s:Sk} (hs:SkR h O wb sl lb s) (he:Ext h h'):SkR h' O wb sl lb s :=
  hs.congr (fun _ h=>h) (fun k a=>Aqq (hs.lt k a) he.size) fun k a=>he.old k (hs.lt k a)
theorem ZHp (s:ByteArray) (i:Nat):s[i]?=s.data.toList[i]?:=by
  have hs:s.size=s.data.size:=rfl
  by_cases h:i<s.size
  ·rw [getElem?_pos s i h,Axy (by simp;exact h)]
   rfl
  ·rw [getElem?_neg s i h,Aqt (by simp;omega)]
def ZHa (h:Int) (b:UInt8):Int:=IntKind.wrap .u64 ((ZAk .u64 h (IntKind.wrap .u64 (b.toNat:Int)))*1099511628211)
def ZEl (k:ByteArray):Int:=k.data.toList.foldl ZHa 14695981039346656037
theorem ZyN {k:ByteArray} (hs:k.size<9223372036854775808) {K:Int->Zf->Prop} {h:Zf} (d:K (ZEl k) h):ZgF k K h:=by
  unfold ZgF ZiJ;rw [Zbo,Zbo];have hl:k.data.toList.length=k.size:=by simp
  refine Zbd (fun st e=>∃ i:Nat,st=((k.data.toList.take i).foldl ZHa 14695981039346656037,(i:Int),())/\i<=k.size/\e=h) (fun st _=>(k.size - st.2.1).toNat) ⟨0,rfl,by omega,rfl⟩ ?_;rintro _ _ ⟨i,rfl,hi,rfl⟩ Q f;dsimp only;refine Zn (fun q=>?_) fun q=>?_
  ·rw [Zbo]
   obtain ⟨b,c⟩:∃ b,k.data.toList[i]?=some b:=⟨_,Axy (by omega)⟩;refine ⟨b,by omega,by rw [ZHp];exact c,?_⟩;dsimp only;rw [Zbo];have a:IntKind.wrap .i64 ((i:Int)+1)=((i+1:Nat):Int):=by rw [Yr (by omega) (by omega)];rfl
   refine f _ _ ⟨i+1,?_,by omega,rfl⟩ (by rw [a];dsimp only;omega);rw [a,Aym,c,List.foldl_append];rfl
  ·rw [Zbo,Awd (by omega)]
   exact d
def ZGr (x:Int):Int:=IntKind.wrap .u64 ((ZAk .u64 x (Zk4 .u64 x 30))*13787848793156543929)
def ZGq (x:Int):Int:=IntKind.wrap .u64 ((ZAk .u64 x (Zk4 .u64 x 27))*10723151780598845931)
def ZGp (x:Int):Int:=ZAk .u64 (ZGq (ZGr x)) (Zk4 .u64 (ZGq (ZGr x)) 31)
theorem Zw8 {x:Int} {K:Int->Zf->Prop} {h:Zf} (a:K (ZGp x) h):Ziw x K h:=by
  unfold Ziw ZkO;exact Za ⟨by decide,Za ⟨by decide,Za ⟨by decide,Za a⟩⟩⟩
def Zsm (seed row:Int) (key:ByteArray):Int:=IntKind.wrap .i64 (Int.tmod (ZGp (IntKind.wrap .u64 ((IntKind.wrap .u64 (ZEl key+seed))+(IntKind.wrap .u64 ((11400714819323198485:Int)*(IntKind.wrap .u64 (IntKind.wrap .i64 (row+1)))))))) (IntKind.wrap .u64 256))
theorem Zob {w seed row:Int} {key:ByteArray} (hs:key.size<9223372036854775808) {K:Int->Zf->Prop} {h:Zf} (a:∀ h',Ext h h'->sz h'=sz h+1->K (Zsm seed row key) h'):Xp (w,10,4,256,seed,()) row key K h:=by
  unfold Xp ZcZ;rw [Ziv,Zbo];refine ⟨(ZEl key,()),ZyN hs ⟨rfl,rfl⟩,?_⟩;simp (maxDischargeDepth:=60) only [ZO,ZN,evC,Nqa,Nqb,Nqc,Nqd,Nqe,reduceCtorEq];refine ⟨(_,()),Zw8 ⟨rfl,rfl⟩,?_⟩;simp (maxDischargeDepth:=60) only [ZO,ZN,evC,Nqa,Nqb,Nqc,Nqd,Nqe,reduceCtorEq];exact ⟨by decide,a _ (Ext.push _ _) ZbE⟩
def bgn (d at_:Int):Int:=at_ - at_ % d
theorem ZqV {d at_:Int} (hd:1<=d) (h0:0<=at_):0<=bgn d at_/\bgn d at_<=at_/\at_<bgn d at_+d/\bgn d at_=d*(at_ / d):=by
  unfold bgn;have h1:=Int.emod_nonneg at_ (show d≠0 by omega);have a:=Int.emod_lt_of_pos at_ (show 0<d by omega);have h3:=Int.mul_ediv_add_emod at_ d;have b:=Int.mul_nonneg (show 0<=d by omega) (Int.ediv_nonneg h0 (show 0<=d by omega));omega
theorem ZpI {d seed:Int} (hd:1<=d/\d<=360000000) {at_:Int} (h0:0<=at_) (h1:at_<=1152921504606846976) {K:Int->Zf->Prop} {h:Zf} (a:∀ h',Ext h h'->sz h'=sz h+1->K (bgn d at_) h'):Zad (d*10,10,4,256,seed,()) at_ K h:=by
  unfold Zad ZdB;have b:(IntKind.wrap .i64 (Int.tdiv (d*10) 10))=d:=by rw [Int.mul_tdiv_cancel _ (by decide),Yr (by omega) (by omega)]
  have c:IntKind.wrap .i64 (at_ - Int.tmod at_ d)=bgn d at_:=by
    have f:=ZqV hd.1 h0;have e:bgn d at_=at_ - at_ % d:=rfl;rw [Int.tmod_eq_emod_of_nonneg h0,<- e,Yr (by omega) (by omega)]
  simp (maxDischargeDepth:=60) only [ZO,ZN,evC,Nqa,Nqb,Nqc,Nqd,Nqe,reduceCtorEq,b,c];exact ⟨by decide,by omega,a _ (Ext.push _ _) ZbE⟩
def spl (a b:Int):Int:=min (a+b) 4611686018427387904
theorem ZlO {a b:Int} (d:0<=a/\a<=4611686018427387904) (e:0<=b/\b<=4611686018427387904) {K:Int->Zf->Prop} {h:Zf} (c:K (spl a b) h):ZbL a b K h:=by
  unfold ZbL ZiI;unfold spl at c;rw [Zbo,Yr (n:=4611686018427387904 - b) (by omega) (by omega)];refine Zn (fun q=>?_) fun q=>?_
  ·rw [Zbo]
   rwa [show min (a+b) 4611686018427387904=4611686018427387904 from by omega] at c
  ·rw [Zbo,Yr (by omega) (by omega)]
   rwa [show min (a+b) 4611686018427387904=a+b from by omega] at c
theorem ZsO {a b:Int} (c:0<=a/\a<=4611686018427387904) (d:0<=b/\b<=4611686018427387904):0<=spl a b/\spl a b<=4611686018427387904:=by unfold spl;omega
theorem ZtS {h:Zf} {wb:Nat} {d e f g i j:Value} {l:Int} {r:List Value} (k:obj h wb=some (.cells (d::e::f::g::i::j::iv l::r).toArray 293 (0,0))) {at_:Int} {K:Int->Zf->Prop} (a:K (ZW l at_) h):Zae (some ⟨wb,0,none⟩) at_ K h:=by
  unfold Zae ZdC;unfold ZW at a;simp (maxDischargeDepth:=60) only [ZO,ZN,evC,Nqa,Nqb,Nqc,Nqd,Nqe,reduceCtorEq,k];refine Zn (fun q=>?_) fun q=>Zn (fun b=>?_) fun b=>Zn (fun c=>?_) fun c=>?_
  ·rw [if_pos q] at a;exact a
  ·rw [if_neg q,if_pos b] at a;exact a
  ·rw [if_neg q,if_neg b,if_pos c] at a;exact a
  ·rw [if_neg q,if_neg b,if_neg c] at a;exact a
def Zu8 (d at_ r c:Int) (l:List Bk):Int:=l.foldl (fun n b=>if b.at_>bgn d at_ - d*10 then spl n (b.n r c) else n) 0
theorem ZwY (d at_ r c:Int) (l:List Bk) (b:Bk):Zu8 d at_ r c (l++[b])=if b.at_>bgn d at_ - d*10 then spl (Zu8 d at_ r c l) (b.n r c) else Zu8 d at_ r c l:=by unfold Zu8;rw [List.foldl_append];rfl
theorem ZtP (d at_ r c:Int) (l:List Bk) (hl:∀ b,b∈l->b.OK d):0<=Zu8 d at_ r c l/\Zu8 d at_ r c l<=4611686018427387904:=by
  unfold Zu8
  suffices ∀ n:Int,0<=n/\n<=4611686018427387904->0<=l.foldl (fun n b=>if b.at_>bgn d at_ - d*10 then spl n (b.n r c) else n) n/\l.foldl (fun n b=>if b.at_>bgn d at_ - d*10 then spl n (b.n r c) else n) n<=4611686018427387904 from this 0 (by omega)
  induction l with
  | nil=>exact fun n a=>a
  | cons b l e =>
    intro n a;rw [Awq];refine e (fun b f=>hl b (Aws _ f)) _ ?_;split
    ·exact ZsO a ((hl b (List.mem_cons_self ..)).n r c)
    ·exact a
def ZE8 (s:Sk) (at_:Int) (key:ByteArray):Nat->Int
  | 0=>4611686018427387904
  | n+1=>Zpg (ZE8 s at_ key n) (Zu8 s.d at_ n (Zsm s.seed n key) s.bs)
def Sk.est (s:Sk) (at_:Int) (key:ByteArray):Int:=ZE8 s at_ key 4
theorem ZwZ {h:Zf} {O:Nat->Prop} {wb:Nat} {sl:Sl} {lb:List B3} {s:Sk} (hs:SkR h O wb sl lb s) {at_:Int} (h0:0<=at_) (h1:at_<=1152921504606846976) {cb:Nat} {r c:Int} (B:obj h cb=some (.cells [iv r,iv c].toArray 332 (0,0)))
    {K:Int->Zf->Prop} (I:∀ h',Ext h h'->K (Zu8 s.d at_ r c s.bs) h'):Z2 (some ⟨wb,0,none⟩) at_ (some ⟨cb,0,none⟩,()) K h:=by
  unfold Z2 YJ;have lw:=Zp hs.cells;have lc:=Zp B;have e:=hs.own.row;have hlen:=Zan ZfF e (by decide);have C:=e.big;have D:=e.cap;have J:lb.length=s.bs.length:=by rw [<- hs.bs,Ayv]
  simp (maxDischargeDepth:=60) only [ZO,ZN,evC,Nqa,Nqb,Nqc,Nqd,Nqe,reduceCtorEq,hs.cells];refine Zbd (fun st f=>∃ i:Nat,st=(Zu8 s.d at_ r c (s.bs.take i),(i:Int),())/\i<=lb.length/\Ext h f) (fun st _=>(sl.len - st.2.1).toNat) ⟨0,rfl,by omega,Ext.refl _⟩ ?_;rintro _ f ⟨i,rfl,hi,he⟩ Q E;dsimp only;refine Zn (fun q=>?_) fun q=>?_
  ·obtain ⟨x,j⟩:∃ x,lb[i]?=some x:=⟨_,Axy (by omega)⟩
   have k:=hs.ext he;have u:s.bs[i]?=some x.1:=by rw [<- hs.bs,Awy,j];rfl
   obtain ⟨b,o,F,_,l,a⟩:=ZbB ZfF (e.ext he) j (by decide);have v0:=a 0 _ rfl;have v1:=a 1 _ rfl;have v2:=a 2 _ rfl;simp only [Axi] at v0;refine l rfl ?_;have m:Ext f (Zf.puts (f.push (.cells [iv 0,iv 0,.map none].toArray 330 (0,0))) (sz f) 0 [iv x.1.at_,iv x.1.total,.map (some x.2)]):=ZbU (X4 (Ext.refl _)) (Aqo _);have G:obj (Zf.puts (f.push (.cells [iv 0,iv 0,.map none].toArray 330 (0,0))) (sz f) 0 [iv x.1.at_,iv x.1.total,.map (some x.2)]) (sz f)=some (.cells [iv x.1.at_,iv x.1.total,.map (some x.2)].toArray 330 (0,0)):=by simp (maxDischargeDepth:=60) only [ZO,ZN,evC,Nqa,Nqb,Nqc,Nqd,Nqe,reduceCtorEq]
   have H:=k.cells;have v:=Zp H;simp (maxDischargeDepth:=60) only [ZO,ZN,evC,Nqa,Nqb,Nqc,Nqd,Nqe,reduceCtorEq,v0,v1,v2,H,ZeQ v];generalize Zf.puts (f.push (.cells [iv 0,iv 0,.map none].toArray 330 (0,0))) (sz f) 0 [iv x.1.at_,iv x.1.total,.map (some x.2)]=N at m G ⊢;refine ZpI hs.ok.d h0 h1 fun h3 p z3=>?_;have a3:=Zj G p;have g:=(k.ext m).ext p;have L:=g.cells;have P:0<=bgn s.d at_/\bgn s.d at_<=at_:=by have:=ZqV hs.ok.d.1 h0;omega
   have w:IntKind.wrap .i64 ((i:Int)+1)=((i+1:Nat):Int):=by rw [Yr (by omega) (by omega)];rfl
   have st:Zu8 s.d at_ r c (s.bs.take (i+1))=if x.1.at_>bgn s.d at_ - s.d*10 then spl (Zu8 s.d at_ r c (s.bs.take i)) (x.1.n r c) else Zu8 s.d at_ r c (s.bs.take i):=by
     rw [Aym,u];exact ZwY _ _ _ _ _ _
   simp (maxDischargeDepth:=60) only [ZO,ZN,evC,Nqa,Nqb,Nqc,Nqd,Nqe,reduceCtorEq,a3,L,w,Yr (n:=bgn s.d at_ - s.d*10) (by have:=hs.ok.d;omega) (by have:=hs.ok.d;omega)];have t:obj h3 cb=some (.cells [iv r,iv c].toArray 332 (0,0)):=Zj (Zj (Zj B he) m) p;have y:=Zp t;have M:=Zp a3;refine Zn (fun z=>?_) fun z=>?_
   ·unfold ZaM ZaP
    have hm:=((g.maps x (Axo j)).1).congr (h':=h3.push (.cells [iv x.1.at_,iv x.1.total,.map (some x.2)].toArray 330 (0,0))) (Zj4 (g.maps x (Axo j)).1.lt);simp (maxDischargeDepth:=60) only [ZO,ZN,evC,Nqa,Nqb,Nqc,Nqd,Nqe,reduceCtorEq,t,ZeQ y];have A:=(hs.ok.bs x.1 (by rw [<- hs.bs];exact List.mem_map_of_mem (Axo j))).1;refine hm.get r c (ZlO (ZtP _ _ _ _ _ fun b F=>(hs.ok.bs b (List.mem_of_mem_take F)).1) (A.n r c) ?_);refine E _ _ ⟨i+1,?_,by omega,X4 ((he.trans m).trans p)⟩ (by dsimp only;omega);rw [st,if_pos z]
   ·refine E _ _ ⟨i+1,?_,by omega,(he.trans m).trans p⟩ (by dsimp only;omega)
    rw [st,if_neg z]
  ·rw [Awd (by omega)]
   exact I f he
theorem Zw3 {h:Zf} {O:Nat->Prop} {wb:Nat} {sl:Sl} {lb:List B3} {s:Sk} (hs:SkR h O wb sl lb s) {at_:Int} (h0:0<=at_) (h1:at_<=1152921504606846976) {key:ByteArray} (b:key.size<9223372036854775808)
    {K:Int->Zf->Prop} (k:∀ h',Ext h h'->K (s.est at_ key) h'):X1 (some ⟨wb,0,none⟩) at_ key K h:=by
  unfold X1 Zbx;simp (maxDischargeDepth:=60) only [ZO,ZN,evC,Nqa,Nqb,Nqc,Nqd,Nqe,reduceCtorEq,hs.cells];refine Zbd (fun st d=>∃ i:Nat,st=(ZE8 s at_ key i,(i:Int),())/\i<=4/\Ext h d) (fun st _=>(4 - st.2.1).toNat) ⟨0,rfl,by omega,Ext.refl _⟩ ?_;rintro _ d ⟨i,rfl,hi,he⟩ Q l;dsimp only;refine Zn (fun q=>?_) fun q=>?_
  ·have c:=hs.ext he
   have m:=c.cells;simp (maxDischargeDepth:=60) only [ZO,ZN,evC,Nqa,Nqb,Nqc,Nqd,Nqe,reduceCtorEq,m];refine Zob b fun a j o=>?_;have e:=c.ext j;have f:Ext a (Zf.puts (a.push (.cells [iv 0,iv 0].toArray 332 (0,0))) (sz a) 0 [iv i,iv (Zsm s.seed i key)]):=ZbU (X4 (Ext.refl _)) (Aqo _);have a3:obj (Zf.puts (a.push (.cells [iv 0,iv 0].toArray 332 (0,0))) (sz a) 0 [iv i,iv (Zsm s.seed i key)]) (sz a)=some (.cells [iv i,iv (Zsm s.seed i key)].toArray 332 (0,0)):=by simp (maxDischargeDepth:=60) only [ZO,ZN,evC,Nqa,Nqb,Nqc,Nqd,Nqe,reduceCtorEq]
   generalize Zf.puts (a.push (.cells [iv 0,iv 0].toArray 332 (0,0))) (sz a) 0 [iv i,iv (Zsm s.seed i key)]=h3 at f a3 ⊢;have g:IntKind.wrap .i64 ((i:Int)+1)=((i+1:Nat):Int):=by rw [Yr (by omega) (by omega)];rfl
   refine ZwZ (e.ext f) h0 h1 a3 fun p n=>?_;rw [g];exact l _ _ ⟨i+1,rfl,by omega,((he.trans j).trans f).trans n⟩ (by dsimp only;omega)
  ·have:i=4:=by omega
   subst this;exact k d he
def Sk.used (s:Sk) (at_:Int) (key:ByteArray):Int:=if ZW s.last at_=0 then s.est at_ key else 0
theorem ZmL {α:Type} {l:List α} {i:Nat} {a:α} (h:l[i]?=some a):l.set i a=l:=by
  apply Awx;intro j;rw [List.getElem?_set];split
  ·rename_i e
   subst e;rw [if_pos (Zbw h),h]
  ·rfl
theorem Sk.OK.set {s:Sk} (ok:s.OK) {i:Nat} {b a:Bk} (hi:s.bs[i]?=some b) (he:a.at_=b.at_) (e:a.OK s.d):Sk.OK ⟨s.d,s.seed,s.last,s.bs.set i a⟩:=by
  refine ⟨ok.d,ok.lo,ok.hi,fun x c=>?_,?_,by show (s.bs.set i a).length<=12;rw [List.length_set];exact ok.few⟩
  ·rcases List.mem_or_eq_of_mem_set c with c | rfl
   ·exact ok.bs x c
   ·exact ⟨e,he▸(ok.bs b (Axo hi)).2⟩
  ·have h1:(s.bs.map (·.at_)).Pairwise (· < ·):=List.pairwise_map.2 ok.up
   have f:((s.bs.set i a).map (·.at_)).Pairwise (· < ·):=by
     rw [List.map_set,he,ZmL (by rw [Awy,hi];rfl)];exact h1
   exact List.pairwise_map.1 f
theorem SkR.setTot {h:Zf} {O:Nat->Prop} {wb:Nat} {sl:Sl} {lb:List B3} {s:Sk} (hs:SkR h O wb sl lb s) {i:Nat} {x:B3} (hi:lb[i]?=some x) {v:Int} (hv:0<=v/\v<=4611686018427387904) {b o:Nat} (m:sl.blk=some b) (ho:o=i*3) {K:Zf->Prop}
    (f:∀ h',SkR h' O wb sl (lb.set i (⟨x.1.at_,v,x.1.n⟩,x.2)) ⟨s.d,s.seed,s.last,s.bs.set i ⟨x.1.at_,v,x.1.n⟩⟩->Upd (fun k=>sl.blk=some k) h h'->sz h'=sz h->K h'):st h b (o+1) (iv v) K:=by
  have c:s.bs[i]?=some x.1:=by rw [<- hs.bs,Awy,hi];rfl
  have e:=(hs.ok.bs x.1 (Axo c)).1;refine Zt2 ZfF hs.own hi (j:=1) (a':=(⟨x.1.at_,v,x.1.n⟩,x.2)) (by decide) rfl Zd4 m (by omega) fun h' g hu hz=>f h' ⟨hs.ok.set c rfl ⟨e.step,hv,e.n⟩,?_,g,?_,?_,fun y a=>(?_:_/\_),hs.tw,hs.ts,hs.ne,fun y a=>?_,fun k f=>by rw [hz];exact hs.lt k f⟩ hu hz
  ·exact YZ hs.cells hu hs.ne
  ·rw [List.map_set,hs.bs]
  ·rw [List.map_set,ZmL (by rw [Awy,hi];rfl)]
   exact hs.nd
  ·have hold:∀ z:B3,z∈lb->Zq6 h' z.2 z.1.n/\O z.2:=fun z hz=>by
     obtain ⟨l,p⟩:=hs.maps z hz;exact ⟨l.congr (hu.old _ l.lt (hs.mt z hz)),p⟩
   rcases List.mem_or_eq_of_mem_set a with a | rfl
   ·exact hold y a
   ·exact hold x (Axo hi)
  ·rcases List.mem_or_eq_of_mem_set a with a | rfl
   ·exact hs.mt y a
   ·exact hs.mt x (Axo hi)
theorem SkR.setMap {h:Zf} {O:Nat->Prop} {wb:Nat} {sl:Sl} {lb:List B3} {s:Sk} (hs:SkR h O wb sl lb s) {i:Nat} {x:B3} (hi:lb[i]?=some x) {r c v:Int} (hv:0<=v/\v<=4611686018427387904) {K:Zf->Prop}
    (p:∀ h',SkR h' O wb sl (lb.set i (⟨x.1.at_,x.1.total,Zwc x.1.n r c v⟩,x.2)) ⟨s.d,s.seed,s.last,s.bs.set i ⟨x.1.at_,x.1.total,Zwc x.1.n r c v⟩⟩->Upd (· = x.2) h h'->sz h'=sz h->K h'):ZhL [(.int .i64),(.int .i64)] h (some x.2) [iv r,iv c] (iv v) K:=by
  have g:s.bs[i]?=some x.1:=by rw [<- hs.bs,Awy,hi];rfl
  have a:=(hs.ok.bs x.1 (Axo g)).1;obtain ⟨w,z⟩:=hs.maps x (Axo hi);refine w.put r c v fun h' hm hu hz=>p h' ⟨hs.ok.set g rfl ⟨a.step,a.total,fun l m=>?_⟩,?_,?_,?_,?_,fun y o=>?_,hs.tw,hs.ts,hs.ne,fun y o=>?_,fun k p=>by rw [hz];exact hs.lt k p⟩ hu hz
  ·show 0<=(if l=r/\m=c then v else x.1.n l m)/\(if l=r/\m=c then v else x.1.n l m)<=4611686018427387904
   split
   ·exact hv
   ·exact a.n l m
  ·exact YZ hs.cells hu fun e=>hs.mw (Axo hi) e.symm
  ·have:(lb.set i ((⟨x.1.at_,x.1.total,Zwc x.1.n r c v⟩,x.2):B3)).flatMap b3L=lb.flatMap b3L:=by
     have h1:(lb.set i ((⟨x.1.at_,x.1.total,Zwc x.1.n r c v⟩,x.2):B3)).map b3L=lb.map b3L:=by
       rw [List.map_set,ZmL (by rw [Awy,hi];rfl)]
     rw [List.flatMap_def,h1,<- List.flatMap_def]
   rw [this];exact hs.own.congr fun b t _ _=>hu.old b (hs.own.lt t).2 fun e=>hs.mt x (Axo hi) (e▸t)
  ·rw [List.map_set,hs.bs]
  ·rw [List.map_set,ZmL (by rw [Awy,hi];rfl)]
   exact hs.nd
  ·obtain ⟨j,f⟩:=Ayi o
   rw [List.getElem?_set] at f;split at f
   ·split at f
    ·cases f
     exact ⟨hm,z⟩
    ·cases f
   ·rename_i q
    obtain ⟨u,A⟩:=hs.maps y (Axo f);refine ⟨u.congr (hu.old _ u.lt fun e=>q ?_),A⟩;have B:(lb.map (·.2))[i]?=some x.2:=by rw [Awy,hi];rfl
    have C:(lb.map (·.2))[j]?=some x.2:=by rw [Awy,f,<- e];rfl
    obtain ⟨F,D⟩:=Ayh.1 B;obtain ⟨G,E⟩:=Ayh.1 C;exact (List.getElem_inj hs.nd).1 (D.trans E.symm)
  ·rcases List.mem_or_eq_of_mem_set o with o | rfl
   ·exact hs.mt y o
   ·exact hs.mt x (Axo hi)
def Zkm (d a:Int) (x:B3):Bool:=decide (x.1.at_<=a - d*10)
theorem ZtW {h:Zf} {x:B3} {c e wb:Nat} {d a:Int} (hd:1<=d/\d<=360000000) {T1 T2:TypeId} (k:0<=a/\a<=1152921504606846976) (c1:obj h c=some (.cells [iv a].toArray T1 (0,0))) (f:obj h e=some (.cells [.pointer (some ⟨wb,0,none⟩)].toArray T2 (0,0))) (g:ZA 0 (obj h wb)=some (iv (d*10))) (lw:wb<sz h) {K:Bool->Zf->Prop}
    (b:K (Zkm d a x) (h.push (.cells (b3L x).toArray 330 (0,0)))):Y2 (x.1.at_,x.1.total,some x.2,()) (some ⟨c,0,none⟩) (some ⟨e,0,none⟩) K h:=by
  unfold Y2 Zc0;have i:=Zp c1;have j:=Zp f;unfold Zkm at b;rw [<- Yr (n:=a - d*10) (by omega) (by omega)] at b;simp (maxDischargeDepth:=60) only [ZO,ZN,evC,Nqa,Nqb,Nqc,Nqd,Nqe,reduceCtorEq,c1,f,g,ZeQ i,ZeQ j,ZeQ lw];exact b
theorem Zw9 {h:Zf} {q r wb:Nat} {d g:Int} (hd:1<=d/\d<=360000000) {T1 T2:TypeId} (z:0<=g/\g<=1152921504606846976) (c1:obj h q=some (.cells [iv g].toArray T1 (0,0))) (Y:obj h r=some (.cells [.pointer (some ⟨wb,0,none⟩)].toArray T2 (0,0))) (Z:ZA 0 (obj h wb)=some (iv (d*10))) (lw:wb<sz h)
    {base:Nat} {s:Sl} {l:List B3} (ho:Own h base s 3 (l.flatMap b3L)) (n1:s.blk≠some q) (n2:s.blk≠some r) (n3:s.blk≠some wb) {K:Sl->Zf->Prop}
    (F:∀ t h',Own h' base t 3 ((l.filter fun x=> !Zkm d g x).flatMap b3L)->(t.blk=s.blk\/t.blk=none)->Upd (fun k=>s.blk=some k) h h'->K t h'):Zy s (some ⟨q,0,none⟩,some ⟨r,0,none⟩,()) K h:=by
  unfold Zy ZH
  have M:∀ (N:Int->Zf->Prop),(∀ h',Ext h h'->N (ixV (Zkm d g) l) h')->Zz s (some ⟨q,0,none⟩,some ⟨r,0,none⟩,()) N h:=fun N O=>by
    unfold Zz ZI;refine Zj9 ZfF ho.row (by decide) (p:=Zkm d g) (tst:=fun Q b o h3=>ldI h3 b o .i64 fun t4=>ldI h3 b (o+1) .i64 fun t5=>ldM h3 b (o+2) fun t6=>Y2 (t4,t5,t6,()) (some ⟨q,0,none⟩) (some ⟨r,0,none⟩) Q h3) ?_ O;intro i a b o f Q n he c P;have v0:=c 0 _ rfl;have v1:=c 1 _ rfl;have v2:=c 2 _ rfl;simp only [Axi] at v0;refine rI v0 (rI v1 (rM v2 (ZtW hd z (Zj c1 he) (Zj Y he) (by rw [ZG he lw];exact Z) (by have:=Zmv he;omega) (P _ (X4 he)))))
  refine M _ fun h1 u=>Za ?_;have v:=ho.congr (h':=h1) fun b hb _ _=>u.old b (ho.lt hb).2;have d1:=Zj c1 u;have d2:=Zj Y u;have d3:ZA 0 (obj h1 wb)=some (iv (d*10)):=by rw [ZG u lw];exact Z
  have S:wb<sz h1:=by have:=Zmv u;omega
  have hlen:=Zan ZfF ho.row (by decide)
  cases G:l.findIdx? (Zkm d g) with
  | none =>
    rw [ZqC G];refine YC ?_
    have:(l.filter fun x=> !Zkm d g x)=l:=by
      rw [List.filter_eq_self];intro a n;rw [List.findIdx?_eq_none_iff.1 G a n];rfl
    exact F s h1 (by rw [this];exact v) (.inl rfl) (u.upd _)
  | some i =>
    rw [ZqB G];obtain ⟨A,T,U⟩:=List.findIdx?_eq_some_iff_getElem.1 G;have aa:=ho.big;have ae:=ho.cap;refine Zi (by simp) (Za ?_);rw [show IntKind.wrap .i64 ((i:Int)+1)=((i+1:Nat):Int) from by rw [Yr (by omega) (by omega)];rfl]
    refine Ztj ZfF v (by decide) (p:=Zkm d g) (zs:=[iv 0,iv 0,.map none]) rfl (by simp [Zd4,ZsX]) Zyq A (fun j a hj n=>?_) (fun a n=>?_)
      (Good:=fun h=>obj h q=some (.cells [iv g].toArray T1 (0,0))/\obj h r=some (.cells [.pointer (some ⟨wb,0,none⟩)].toArray T2 (0,0))/\ZA 0 (obj h wb)=some (iv (d*10))/\wb<sz h)
      (tst:=fun Q b o H=>ldI H b o .i64 fun t7=>ldI H b (o+1) .i64 fun t8=>ldM H b (o+2) fun t9 =>
        newC H [iv 0,iv 0,Value.map none] 330 fun e V=>sts V e 0 [iv t7,iv t8,Value.map t9] fun m =>
        ldI m e 0 .i64 fun t13=>ldI m e (0+1) .i64 fun t14=>ldM m e (0+2) fun t15=>Y2 (t13,t14,t15,()) (some ⟨q,0,none⟩) (some ⟨r,0,none⟩) (fun b h=>Q b e h) m)
      (wr:=fun e R w=>ldI w e 0 .i64 fun t18=>ldI w e (0+1) .i64 fun t19=>ldM w e (0+2) fun t20=>R [iv t18,iv t19,Value.map t20])
      (fun h1 I hg hu=>?_) ?_ ⟨d1,d2,d3,S⟩ (fun k F=>(v.lt F).2) (fun t h' W X hu _=>F t h' W X ((u.upd _).trans hu))
    ·have:=U j hj
     rw [Axy (by omega)] at n;cases n;simpa using this
    ·rw [Axy A] at n
     cases n;exact T
    ·obtain ⟨B,C,J,L⟩:=hg
     refine ⟨YZ B hu n1,YZ C hu n2,by rw [Zag hu L n3];exact J,?_⟩;have:sz h1<=sz I:=hu.size;omega
    ·rintro a b o f Q ⟨B,C,J,L⟩ an c P
     have v0:=c 0 _ rfl;have v1:=c 1 _ rfl;have v2:=c 2 _ rfl;simp only [Axi] at v0;have ao:=Zp B;have aq:=Zp C;have y:Ext f (Zf.puts (f.push (.cells [iv 0,iv 0,.map none].toArray 330 (0,0))) (sz f) 0 [iv a.1.at_,iv a.1.total,.map (some a.2)]):=ZbU (X4 (Ext.refl _)) (Aqo _);have D:obj (Zf.puts (f.push (.cells [iv 0,iv 0,.map none].toArray 330 (0,0))) (sz f) 0 [iv a.1.at_,iv a.1.total,.map (some a.2)]) (sz f)=some (.cells (b3L a).toArray 330 (0,0)):=by simp (maxDischargeDepth:=60) only [ZO,ZN,evC,Nqa,Nqb,Nqc,Nqd,Nqe,reduceCtorEq,b3L]
     refine rI v0 (rI v1 (rM v2 ?_));rw [Ziv,ZoW (by simp (maxDischargeDepth:=60) only [ZO,ZN,evC,Nqa,Nqb,Nqc,Nqd,Nqe,reduceCtorEq]) (by simp (maxDischargeDepth:=60) only [ZO,ZN,evC,Nqa,Nqb,Nqc,Nqd,Nqe,reduceCtorEq])];change ldI (Zf.puts (f.push (.cells [iv 0,iv 0,.map none].toArray 330 (0,0))) (sz f) 0 [iv a.1.at_,iv a.1.total,.map (some a.2)]) _ _ _ _;generalize Zf.puts (f.push (.cells [iv 0,iv 0,.map none].toArray 330 (0,0))) (sz f) 0 [iv a.1.at_,iv a.1.total,.map (some a.2)]=I at y D ⊢;have z2:=Zmv y;refine rI (Zb D rfl) (rI (Zb D rfl) (rM (Zb D rfl) (ZtW hd z (Zj B y) (Zj C y) (by rw [ZG y L];exact J) (by omega) ?_)));have E:Ext f (I.push (.cells (b3L a).toArray 330 (0,0))):=X4 y;have a3:=Zj D (Ext.push I (.cells (b3L a).toArray 330 (0,0)));refine P _ _ ⟨Zj B E,Zj C E,by rw [ZG E L];exact J,by have:=Zmv E;omega⟩ E fun R hR=>?_;exact rI (Zb a3 rfl) (rI (Zb a3 rfl) (rM (Zb a3 rfl) hR))
def ZkM (d at_:Int) (l:List Bk):List Bk:=l.filter fun b=> !decide (b.at_<=bgn d at_ - d*10)
def Zvt (d at_:Int) (l:List Bk):Bool:=match l.getLast? with
  | some b=>b.at_ !=bgn d at_
  | none=>true
def ZAI (d at_:Int):Bk:=⟨bgn d at_,0,fun _ _=>0⟩
def ZoD (d at_:Int) (l:List Bk):List Bk:=if Zvt d at_ (ZkM d at_ l) then ZkM d at_ l++[ZAI d at_] else ZkM d at_ l
def Sk.opened (s:Sk) (at_:Int):Sk:=⟨s.d,s.seed,at_,ZoD s.d at_ s.bs⟩
theorem Zvp (d at_:Int) (l:List Bk):∃ b,(ZoD d at_ l).getLast?=some b/\b.at_=bgn d at_:=by
  unfold ZoD;split
  ·exact ⟨ZAI d at_,by simp,rfl⟩
  ·rename_i a
   unfold Zvt at a;split at a
   ·rename_i b c
    exact ⟨b,c,by simpa using a⟩
   ·exact (a rfl).elim
theorem Zup {d:Int} (hd:1<=d):∀ (l:List Bk) (lo hi:Int),(∀ b,b∈l->∃ k,b.at_=d*k/\lo<k/\k<=hi)->(l.Pairwise fun a b=>a.at_<b.at_)->lo<=hi->(l.length:Int)<=hi - lo
  | [],lo,hi,_,_,h=>by simp;omega
  | b::l,lo,hi,e,j,h=>by
    obtain ⟨n,o⟩:=List.pairwise_cons.1 j;obtain ⟨k,p,s,q⟩:=e b (List.mem_cons_self ..)
    have:=Zup hd l k hi (fun c f=>by
      obtain ⟨m,g,t,r⟩:=e c (Aws _ f);have i:=n c f;rw [p,g] at i
      exact ⟨m,g,Int.lt_of_mul_lt_mul_left i (by omega),r⟩) o q
    rw [Aqj];omega
theorem ZDN {l:List Bk} (c:l.Pairwise fun a b=>a.at_<b.at_) {a z:Bk} (d:a∈l) (hz:l.getLast?=some z):a.at_<=z.at_:=by
  obtain ⟨e,rfl⟩:=List.getLast?_eq_some_iff.1 hz
  rcases Axx.1 d with h | h
  ·exact Int.le_of_lt ((List.pairwise_append.1 c).2.2 a h z (by simp))
  ·simp at h;rw [h];exact Int.le_refl _
theorem ZmR {d at_:Int} {l:List Bk} (h:l.Pairwise fun a b=>a.at_<b.at_):(ZkM d at_ l).Pairwise fun a b=>a.at_<b.at_:=h.sublist List.filter_sublist
theorem Sk.opened_ok {s:Sk} (ok:s.OK) {at_:Int} (hw:ZW s.last at_=0):(s.opened at_).OK:=by
  obtain ⟨a0,m,p⟩:=Zew hw;obtain ⟨d,seed,last,bs⟩:=s;have hd:1<=d/\d<=360000000:=ok.d;dsimp only at p;obtain ⟨v,b1,b2,j⟩:=ZqV hd.1 a0
  have e:∀ b,b∈ZkM d at_ bs->b.OK d/\b.at_<=at_/\∃ k,b.at_=d*k/\at_ / d - 10<k/\k<=at_ / d:=fun b hm=>by
    obtain ⟨h1,n⟩:=Axt.1 hm;obtain ⟨o,q⟩:=ok.bs b h1;obtain ⟨k,w,f⟩:=o.step;have h3:¬ b.at_<=bgn d at_ - d*10:=by simpa using n
    have t:b.at_<=last:=q;refine ⟨o,by omega,k,f,?_,?_⟩
    ·refine Int.lt_of_mul_lt_mul_left (a:=d) ?_ (by omega)
     rw [Int.mul_sub,<- f,<- j];omega
    ·refine (Int.le_ediv_iff_mul_le (by omega)).2 ?_
     rw [Int.mul_comm,<- f];omega
  have hle:∀ b,b∈ZkM d at_ bs->b.at_<=bgn d at_:=fun b hm=>by
    obtain ⟨_,_,k,f,_,u⟩:=e b hm;rw [f,j];exact Int.mul_le_mul_of_nonneg_left u (by omega)
  have g:(ZAI d at_).OK d:=⟨⟨at_ / d,Int.ediv_nonneg a0 (by omega),j⟩,⟨Int.le_refl _,by show (0:Int)<=_;decide⟩,fun r c=>⟨Int.le_refl _,by show (0:Int)<=_;decide⟩⟩
  have x:(ZkM d at_ bs).length<=10:=by
    have:=Zup hd.1 (ZkM d at_ bs) (at_ / d - 10) (at_ / d) (fun b hm=>(e b hm).2.2) (ZmR ok.up) (by omega);omega
  show Sk.OK ⟨d,seed,at_,ZoD d at_ bs⟩;unfold ZoD;split
  ·rename_i l
   refine ⟨hd,a0,m,fun b hm=>?_,?_,?_⟩
   ·rcases Axx.1 hm with hm | hm
    ·exact ⟨(e b hm).1,(e b hm).2.1⟩
    ·simp at hm;subst hm;exact ⟨g,b1⟩
   ·refine List.pairwise_append.2 ⟨ZmR ok.up,by simp,fun a i b h=>?_⟩
    simp at h;subst h;show a.at_<bgn d at_;have h1:=hle a i;unfold Zvt at l;split at l
    ·rename_i z hz
     have n:=ZDN (ZmR ok.up) i hz;have h3:=hle z (List.mem_of_getLast? hz);have y:z.at_≠bgn d at_:=by simpa using l
     omega
    ·rename_i hz
     rw [List.getLast?_eq_none_iff.1 hz] at i;cases i
   ·show (ZkM d at_ bs++[ZAI d at_]).length<=12
    rw [Awe,List.length_singleton];omega
  ·exact ⟨hd,a0,m,fun b hm=>⟨(e b hm).1,(e b hm).2.1⟩,ZmR ok.up,by show (ZkM d at_ bs).length<=12;omega⟩
structure GrO (O O':Nat->Prop) (h h':Zf):Prop where
  upd:Upd O h h'
  keep:∀ k,O k->O' k
  new:∀ k,O' k->O k\/sz h<=k
theorem GrO.refl {O:Nat->Prop} {h:Zf}:GrO O O h h:=⟨Upd.refl _ _,fun _ h=>h,fun _ h=> .inl h⟩
theorem GrO.ext {O O':Nat->Prop} {h h' a:Zf} (g:GrO O O' h h') (e:Ext h' a):GrO O O' h a:=⟨g.upd.trans (e.upd _),g.keep,g.new⟩
theorem GrO.put {O O':Nat->Prop} {h h' b:Zf} (g:GrO O O' h h') {S:Nat->Prop} (u:Upd S h' b) (d:∀ k,S k->O' k):GrO O O' h b:=by
  refine ⟨⟨Aqp g.upd.size u.size,fun k a c=>?_⟩,g.keep,g.new⟩;rw [u.old k (Aqq a g.upd.size) fun hs=>?_,g.upd.old k a c]
  rcases g.new k (d k hs) with h1 | h1
  ·exact c h1
  ·have:k<sz h:=a
   omega
theorem GrO.trans {O c d:Nat->Prop} {h h1 e:Zf} (g:GrO O c h h1) (b:GrO c d h1 e):GrO O d h e:=by
  obtain ⟨u,k,n⟩:=g.put b.upd fun k a=>a;exact ⟨u,fun k a=>b.keep k (g.keep k a),fun k a=>(b.new k a).elim (g.new k) fun f=> .inr (by have:sz h<=sz h1:=g.upd.size;omega)⟩
theorem Zvd {h:Zf} {b a wb:Nat} {d j at_ seed:Int} {t:Sl} {lb:List B3} {T1 T2:TypeId} (cb:obj h b=some (.cells [.pointer (some ⟨wb,0,none⟩)].toArray T1 (0,0))) (r:obj h a=some (.cells [iv j].toArray T2 (0,0)))
    (I:obj h wb=some (.cells [iv (d*10),iv 10,iv 4,iv 256,.int .u64 seed,slV t,iv at_].toArray 293 (0,0))) (ho:Own h 0 t 3 (lb.flatMap b3L)) (few:lb.length<=12) (n1:t.blk≠some b) (n2:t.blk≠some a) (W:t.blk≠some wb) (n4:b≠wb) {J:Unit->Zf->Prop}
    (g:∀ h' t',Own h' 0 t' 3 ((lb++[((⟨j,0,fun _ _=>0⟩:Bk),sz h)]).flatMap b3L)->obj h' wb=some (.cells [iv (d*10),iv 10,iv 4,iv 256,.int .u64 seed,slV t',iv at_].toArray 293 (0,0))->Zq6 h' (sz h) (fun _ _=>0)->obj h' b=some (.cells [.pointer (some ⟨wb,0,none⟩)].toArray T1 (0,0)) ->
      Upd (fun k=>k=wb\/t.blk=some k) h h'->sz h+2<=sz h'->(t'.blk=t.blk\/t'.blk=some (sz h+2))->J () h') :
    ldP h b 0 fun t47=>ldP h b 0 fun t48=>Ze t48 fun s u=>ldL h s (u+5) fun t51=>ldI h a 0 .i64 fun t52=>Zfk h fun K f =>
      Zu (Zo f [(a,0,iv t52)]) <| Zu (Zo f [(s,u+5,Value.slice t51.ptr t51.len t51.cap)]) <| Zu (Zo f [(b,0,Value.pointer t48)]) <| Zu (Zo f [(b,0,Value.pointer t47)]) <|
      newC f [iv t52,iv 0,Value.map (some K)] 330 fun L c =>
      Zu (Zo c [(a,0,iv t52)]) <| Zu (Zo c [(s,u+5,Value.slice t51.ptr t51.len t51.cap)]) <| Zu (Zo c [(b,0,Value.pointer t48)]) <| Zu (Zo c [(b,0,Value.pointer t47)]) <|
      rdS ⟨some ⟨L,0,none⟩,1,1⟩ 3 c fun new=>app 330 3 24 [iv 0,iv 0,Value.map none] t51 1 new c fun t57 i =>
      Zu (Zo i [(a,0,iv t52)]) <| Zu (Zo i [(b,0,Value.pointer t48)]) <| Zu (Zo i [(b,0,Value.pointer t47)]) <|
      Ze t47 fun M N=>st i M (N+5) (Value.slice t57.ptr t57.len t57.cap) fun O=>J () O:=by
  have hl:=Zan ZfF ho.row (by decide);have lw:=Zp I;have ah:=Zp cb;have ai:=Zp r;refine rP (Zb cb rfl) (rP (Zb cb rfl) (Zg (rL (Zb I rfl) (rI (Zb r rfl) ?_))));rw [Zrz];have B:Ext h (h.push (.map #[] 0)):=Ext.push _ _;have P:Zq6 (h.push (.map #[] 0)) (sz h) (fun _ _=>0):=Zq6.new;have X:sz (h.push (.map #[] 0))=sz h+1:=ZbE;generalize h.push (.map #[] 0)=h1 at B P X ⊢;have w:=Zj cb B;have l:=Zj r B;have C:=Zj I B;have held:∀ {Y:Zf} {b o:Nat} {v:Value},ZA o (obj Y b)=some v->Zo Y [(b,o,v)]:=fun hc=>by rw [ZaX,Zg9];exact ⟨hc,trivial⟩
  refine ⟨held (Zb l rfl),held (Zb C rfl),held (Zb w rfl),held (Zb w rfl),?_⟩;rw [Ziv];have z:Ext h1 (h1.push (.cells [iv j,iv 0,Value.map (some (sz h))].toArray 330 (0,0))):=Ext.push _ _
  have m:Row (h1.push (.cells [iv j,iv 0,Value.map (some (sz h))].toArray 330 (0,0))) ⟨some ⟨sz h1,0,none⟩,1,1⟩ 3 (b3L ((⟨j,0,fun _ _=>0⟩:Bk),sz h)) :=
    (Own.newC (h:=h1) (cells:=b3L ((⟨j,0,fun _ _=>0⟩:Bk),sz h)) (t:=330) (size:=3) (n:=1) rfl (by decide)).row
  have Z:sz (h1.push (.cells [iv j,iv 0,Value.map (some (sz h))].toArray 330 (0,0)))=sz h+2:=by rw [ZbE,X]
  generalize h1.push (.cells [iv j,iv 0,Value.map (some (sz h))].toArray 330 (0,0))=Q at z m Z ⊢;have D:=B.trans z;have x:=Zj w z;have p:=Zj l z;have E:=Zj C z;refine ⟨held (Zb p rfl),held (Zb E rfl),held (Zb x rfl),held (Zb x rfl),m.rd ?_⟩;have R:=ho.congr (h':=Q) fun k g _ _=>D.old k (ho.lt g).2;refine Own.app R rfl (Zyq _) rfl (by omega) (by omega) (Ayg _) fun t3 h3 F ak A S=>?_;have y:=YZ x A n1;have G:=YZ p A n2;have T:=YZ E A W;refine ⟨held (Zb G rfl),held (Zb y rfl),held (Zb y rfl),Zg ?_⟩;refine Zbf T (by simp) Zbp fun h4 U H z4=>?_;have q:t3.blk=t.blk\/t3.blk=some (sz h+2):=S.imp id fun e=>by rw [e,YO,Z]
  have n33:t3.blk≠some wb:=fun e=>by
    rcases q with V | V
    ·exact W (V▸e)
    ·rw [V] at e;cases e;omega
  have z3:sz h+2<=sz h3:=by have:sz Q<=sz h3:=A.size;omega
  refine g h4 t3 ?_ U ?_ (YZ y H n4) ?_ (by omega) q
  ·rw [Ayl]
   have:=F.congr (h':=h4) fun k g _ _=>H.old k (F.lt g).2 fun e=>n33 (e▸g);simpa using this
  ·refine ((P.congr (z.old _ P.lt)).congr (A.old _ (by show sz h<sz Q;omega) fun e=>?_)).congr (H.old _ (by show sz h<sz h3;omega) fun e=>by omega)
   have:=(ho.lt e).2;rw [YO] at this;omega
  ·exact ((D.upd _).trans (A.mono fun k _ g=> .inr g)).trans (H.mono fun k _ g=> .inl g)
def ZEN (n:Int->Int->Int) (seed x:Int) (key:ByteArray):Nat->Int->Int->Int
  | 0=>n
  | i+1=>Zwc (ZEN n seed x key i) i (Zsm seed i key) (spl (ZEN n seed x key i i (Zsm seed i key)) x)
def ZqS (b:Bk) (seed x:Int) (key:ByteArray) (k:Nat):Bk:=⟨b.at_,spl b.total x,ZEN b.n seed x key k⟩
def Zs7 (l:List Bk) (f:Bk->Bk):List Bk:=match l.getLast? with
  | some b=>l.set (l.length - 1) (f b)
  | none=>l
def Sk.add (s:Sk) (at_ x:Int) (key:ByteArray):Sk:=⟨s.d,s.seed,at_,Zs7 (ZoD s.d at_ s.bs) fun b=>ZqS b s.seed x key 4⟩
def Sk.took (s:Sk) (at_ x:Int) (key:ByteArray):Sk:=if ZW s.last at_=0 then s.add at_ x key else s
theorem Zrc (l a:Int):ZW l a=0\/ZW l a=2\/ZW l a=7:=by
  unfold ZW;split
  ·exact .inr (.inl rfl)
  ·split
   ·exact .inr (.inl rfl)
   ·split
    ·exact .inr (.inr rfl)
    ·exact .inl rfl
theorem Zve {h h0:Zf} {O:Nat->Prop} {wb b i:Nat} {sl t:Sl} {lb:List B3} {s:Sk} (hs:SkR h0 O wb sl lb s) {at_:Int} (hw:ZW s.last at_=0) {T1 T2:TypeId}
    (cb:obj h b=some (.cells [.pointer (some ⟨wb,0,none⟩)].toArray T1 (0,0))) (H:obj h i=some (.cells [iv (bgn s.d at_)].toArray T2 (0,0))) (Q:obj h wb=some (.cells [iv (s.d*10),iv 10,iv 4,iv 256,.int .u64 s.seed,slV t,iv at_].toArray 293 (0,0)))
    (R:sz h0<=b/\b<i/\i<sz h) (ho:Own h 0 t 3 ((lb.filter fun x=> !Zkm s.d (bgn s.d at_) x).flatMap b3L)) (S:t.blk=sl.blk\/t.blk=none) (hu:Upd (fun k=>k=wb\/sl.blk=some k) h0 h) {J:Unit->Zf->Prop}
    (f:∀ h' O' T U,SkR h' O' wb T U (s.opened at_)->GrO O O' h0 h'->¬ O' b->obj h' b=some (.cells [.pointer (some ⟨wb,0,none⟩)].toArray T1 (0,0))->J () h') :
    ldP h b 0 fun t43=>Ze t43 fun V W=>ldL h V (W+5) fun t46=>Zd (t46.len:Int) fun k =>
      Zm (k ==0) (
      ldP h b 0 fun t47=>ldP h b 0 fun t48=>Ze t48 fun u v=>ldL h u (v+5) fun t51=>ldI h i 0 .i64 fun t52=>Zfk h fun A l =>
      Zu (Zo l [(i,0,iv t52)]) <| Zu (Zo l [(u,v+5,Value.slice t51.ptr t51.len t51.cap)]) <| Zu (Zo l [(b,0,Value.pointer t48)]) <| Zu (Zo l [(b,0,Value.pointer t47)]) <|
      newC l [iv t52,iv 0,Value.map (some A)] 330 fun B j =>
      Zu (Zo j [(i,0,iv t52)]) <| Zu (Zo j [(u,v+5,Value.slice t51.ptr t51.len t51.cap)]) <| Zu (Zo j [(b,0,Value.pointer t48)]) <| Zu (Zo j [(b,0,Value.pointer t47)]) <|
      rdS ⟨some ⟨B,0,none⟩,1,1⟩ 3 j fun new=>app 330 3 24 [iv 0,iv 0,Value.map none] t51 1 new j fun t57 p =>
      Zu (Zo p [(i,0,iv t52)]) <| Zu (Zo p [(b,0,Value.pointer t48)]) <| Zu (Zo p [(b,0,Value.pointer t47)]) <|
      Ze t47 fun C D=>st p C (D+5) (Value.slice t57.ptr t57.len t57.cap) fun E=>J () E) (
      ldP h b 0 fun t62=>Ze t62 fun X Y=>ldL h X (Y+5) fun t65=>YR t65.ptr t65.len (IntKind.wrap .i64 (k - 1)) 3 fun Z aa=>ldI h Z aa .i64 fun t68=>ldI h i 0 .i64 fun t69 =>
      Zm (t68 !=t69) (
      ldP h b 0 fun t47=>ldP h b 0 fun t48=>Ze t48 fun u v=>ldL h u (v+5) fun t51=>ldI h i 0 .i64 fun t52=>Zfk h fun A l =>
      Zu (Zo l [(i,0,iv t52)]) <| Zu (Zo l [(u,v+5,Value.slice t51.ptr t51.len t51.cap)]) <| Zu (Zo l [(b,0,Value.pointer t48)]) <| Zu (Zo l [(b,0,Value.pointer t47)]) <|
      newC l [iv t52,iv 0,Value.map (some A)] 330 fun B j =>
      Zu (Zo j [(i,0,iv t52)]) <| Zu (Zo j [(u,v+5,Value.slice t51.ptr t51.len t51.cap)]) <| Zu (Zo j [(b,0,Value.pointer t48)]) <| Zu (Zo j [(b,0,Value.pointer t47)]) <|
      rdS ⟨some ⟨B,0,none⟩,1,1⟩ 3 j fun new=>app 330 3 24 [iv 0,iv 0,Value.map none] t51 1 new j fun t57 p =>
      Zu (Zo p [(i,0,iv t52)]) <| Zu (Zo p [(b,0,Value.pointer t48)]) <| Zu (Zo p [(b,0,Value.pointer t47)]) <|
      Ze t47 fun C D=>st p C (D+5) (Value.slice t57.ptr t57.len t57.cap) fun E=>J () E) (J () h)):=by
  have ae:=hs.ok;have I:=Sk.opened_ok hs.ok hw;have hl:=Zan ZfF ho.row (by decide);have ay:=Zp hs.cells;have w:∀ k,sz h0<=k->¬ O k:=fun k f m=>by have:=hs.lt k m;omega
  have y:∀ k,t.blk=some k->O k:=fun k f=>by
    rcases S with e | e
    ·exact hs.ts k (e▸f)
    ·rw [e] at f;cases f
  have n1:t.blk≠some b:=fun e=>w _ R.1 (y _ e);have n2:t.blk≠some i:=fun e=>w _ (by omega) (y _ e)
  have n3:t.blk≠some wb:=fun e=>by
    rcases S with F | F
    ·exact hs.ne (F▸e)
    ·rw [F] at e;cases e
  have n5:∀ x,x∈lb->t.blk≠some x.2:=fun x g e=>by
    rcases S with F | F
    ·exact hs.mt x g (F▸e)
    ·rw [F] at e;cases e
  have fm:(lb.filter fun x=> !Zkm s.d (bgn s.d at_) x).map (·.1)=ZkM s.d at_ s.bs:=by
    unfold ZkM;rw [<- hs.bs,List.filter_map];rfl
  have few:(lb.filter fun x=> !Zkm s.d (bgn s.d at_) x).length<=12:=by
    have h1:(lb.filter fun x=> !Zkm s.d (bgn s.d at_) x).length<=lb.length:=List.length_filter_le _ _;have h2:lb.length=s.bs.length:=by rw [<- hs.bs,Ayv]
    have:=ae.few;omega
  have nd:((lb.filter fun x=> !Zkm s.d (bgn s.d at_) x).map (·.2)).Nodup:=hs.nd.sublist (List.filter_sublist.map _)
  have mp:∀ x,x∈lb.filter (fun x=> !Zkm s.d (bgn s.d at_) x)->Zq6 h x.2 x.1.n/\O x.2:=fun x g=>by
    have z:=(Axt.1 g).1;obtain ⟨K,m2⟩:=hs.maps x z;refine ⟨K.congr (hu.old _ K.lt fun e=>?_),m2⟩
    rcases e with e | e
    ·exact hs.mw z e
    ·exact hs.mt x z e
  have hz:sz h0<=sz h:=hu.size
  have g0:GrO O O h0 h:=GrO.refl.put hu fun k f=>by
    rcases f with rfl | f
    ·exact hs.tw
    ·exact hs.ts k f
  have push:Zvt s.d at_ (ZkM s.d at_ s.bs)=true->_:=fun hn=>Zvd (J:=J) cb H Q ho few n1 n2 n3 (by omega) fun h' t' L ah ai aj M aB ak=>by
    have r:∀ k,t'.blk=some k->t.blk=some k\/k=sz h+2:=fun k f=>by
      rcases ak with e | e
      ·exact .inl (e▸f)
      ·rw [e] at f;cases f;exact .inr rfl
    have an:∀ x,x∈lb->t'.blk≠some x.2:=fun x g e=>by
      rcases r _ e with m | m
      ·exact n5 x g m
      ·have:=hs.lt _ (hs.maps x g).2;omega
    have g1:=g0.put M fun k f=>by
      rcases f with rfl | f
      ·exact hs.tw
      ·exact y k f
    refine f h' (fun k=>O k\/k=sz h\/t'.blk=some k) t' _ ⟨I,ah,L,?_,?_,fun x g=>?_,.inl hs.tw,fun k f=> .inr (.inr f),fun e=>?_,fun x g e=>?_,fun k f=>?_⟩ ⟨g1.upd,fun k f=> .inl f,fun k f=>?_⟩ ?_ aj
    ·rw [Ayw,fm]
     show _=ZoD s.d at_ s.bs;unfold ZoD;rw [if_pos hn];rfl
    ·rw [Ayw,List.nodup_append]
     refine ⟨nd,by simp,fun a ha c hc=>?_⟩;simp at hc;subst hc;obtain ⟨x,g,rfl⟩:=Axz.1 ha;intro e;exact w _ hz (e▸(mp x g).2)
    ·rcases Axx.1 g with g | g
     ·obtain ⟨K,m2⟩:=mp x g
      have z:=(Axt.1 g).1;refine ⟨K.congr (M.old _ K.lt fun e=>?_),.inl m2⟩
      rcases e with e | e
      ·exact hs.mw z e
      ·exact n5 x z e
     ·simp at g
      subst g;exact ⟨ai,.inr (.inl rfl)⟩
    ·rcases r _ e with m | m
     ·exact n3 m
     ·omega
    ·rcases Axx.1 g with g | g
     ·exact an x (Axt.1 g).1 e
     ·simp at g
      subst g
      rcases r _ e with m | m
      ·exact w _ hz (y _ m)
      ·dsimp only at m;omega
    ·rcases f with f | f | f
     ·have:=hs.lt k f
      omega
     ·omega
     ·exact (L.lt f).2
    ·rcases f with f | f | f
     ·exact .inl f
     ·right;omega
     ·rcases r _ f with m | m
      ·exact .inl (y _ m)
      ·right;omega
    ·rintro (m | m | m)
     ·exact w _ R.1 m
     ·omega
     ·rcases r _ m with h8 | h8
      ·exact n1 h8
      ·omega
  refine rP (Zb cb rfl) (Zg (rL (Zb Q rfl) (Za ?_)));refine ⟨fun q=>?_,fun q=>?_⟩
  ·have h0:(lb.filter fun x=> !Zkm s.d (bgn s.d at_) x)=[]:=by
     have m:(t.len:Int)=0:=by simpa using q
     exact Aqr (by omega)
   exact push (by rw [<- fm,h0];rfl)
  ·have q0:t.len≠0:=by
     intro e;rw [e] at q;exact absurd q (by decide)
   have aw:=ho.big;have ax:=ho.cap;obtain ⟨x,g⟩:∃ x,(lb.filter fun x=> !Zkm s.d (bgn s.d at_) x)[t.len - 1]?=some x:=⟨_,Axy (by omega)⟩;obtain ⟨bb,o,_,_,N,G⟩:=ZbB ZfF ho.row g (by decide)
   have ao:(ZkM s.d at_ s.bs).getLast?=some x.1:=by
     rw [<- fm,List.getLast?_eq_getElem?,Awy,Ayv,<- hl,g];rfl
   refine rP (Zb cb rfl) (Zg (rL (Zb Q rfl) (N (by rw [Yr (by omega) (by omega)];omega) (rI (G 0 _ rfl) (rI (Zb H rfl) ?_)))));have P:Zvt s.d at_ (ZkM s.d at_ s.bs)=(x.1.at_ !=bgn s.d at_):=by unfold Zvt;rw [ao]
   refine ⟨fun q1=>push (by rw [P];exact q1),fun q1=>?_⟩;refine f h O t _ ⟨I,Q,ho,?_,nd,mp,hs.tw,y,n3,fun x g=>n5 x (Axt.1 g).1,fun k f=>by have:=hs.lt k f;omega⟩ g0 (w _ R.1) cb;rw [fm];show _=ZoD s.d at_ s.bs;unfold ZoD;rw [if_neg (by rw [P,q1];decide)]
end Go.Proofs.YthbfgkphlmlihaaGreat
