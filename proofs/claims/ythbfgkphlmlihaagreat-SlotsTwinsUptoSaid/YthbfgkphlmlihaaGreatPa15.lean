/- Which flows are a call's, of any flows. -/
import Derived.Test.YthbfgkphlmlihaaGreatPa14
set_option linter.unusedVariables false
set_option linter.unusedSimpArgs false
namespace Go.Proofs.YthbfgkphlmlihaaGreat
open Go Go.Fw Go.Js
theorem ZsV {n:Nat} {it:Yld->Nat->(Zf->Prop)->Zf->Prop} {body:Nat->Loop->List Value->Zf->(Option Code->Zf->Prop)->Prop} {h:Zf} {K:Option Code->Nat->Zf->Prop}
    (a:∀ r h1,obj h1 (sz h)=some (.deferred (some []))->obj h1 (sz h+1)=some (Zdo r .ready none)->Ext h h1->sz h1=sz h+2 ->
      it (ZoQ r (sz h+1) n (body (sz h+1) r)) (sz h+1) (fun h'=>∃ st p,st≠ .busy/\(obj h' (sz h+1)=some (Zdo r st p)/\K p (sz h) (Znb h' (sz h+1) (Zdo r .exhausted p)))) h1):Zo6 n it body h K:=by
  rw [Zno];intro r;refine a r _ ?_ ?_ (X4 (X4 (Ext.refl h))) ?_
  ·rw [ZmM,if_neg (by rw [ZbE];omega),ZmM,if_pos rfl]
  ·rw [ZmM,if_pos (by rw [ZbE])]
  ·rw [ZbE,ZbE]
theorem Zh7 {h:Zf} {l:Nat} {x y:Obj} (a:obj h l=some x) {K:Zf->Prop} (b:∀ h1,obj h1 l=some y->Upd (· = l) h h1->sz h1=sz h->K h1):K (Znb h l y) :=
  b _ (by rw [Y1 (Zp a),if_pos rfl]) (Zhv (Upd.refl _ _) (.inr rfl)) Y8
theorem ZsJ {r:Loop} {l n:Nat} {body:List Value->Zf->(Option Code->Zf->Prop)->Prop} {vs:List Value} {k:Bool->Zf->Prop} {h:Zf} (hl:vs.length=n) (a:obj h l=some (Zdo r .ready none))
    (b:body vs h fun p h'=>(obj h' l=some (Zdo r .busy none)/\k p.isNone (Znb h' l (Zdo r (if p.isNone then .ready else .done) p)))):ZoQ r l n body l vs k h:=⟨rfl,hl,a,b⟩
theorem ZvP {r:Loop} {l:Nat} {h:Zf} {K:Zf->Prop} (a:obj h l=some (Zdo r .ready none)) (b:∀ h1,obj h1 l=some (Zdo r .busy none)->Upd (· = l) h h1->sz h1=sz h->K h1):Ztn r l h K:=by
  rw [ZqR];exact ⟨a,Zh7 a b⟩
theorem Zva {D:Nat} {h:Zf} {K:Zf->Prop} (hd:obj h D=some (.deferred (some []))) (a:∀ h1,Upd (· = D) h h1->sz h1=sz h->K h1):Zk3 D h K:=by
  rw [Zqd];exact ⟨hd,Zh7 hd fun h1 _ u z=>a h1 u z⟩
def ZfZ (cb:Nat->Bool) (c:C8):List FlowP->Nat->List Int
  | [],_=>[]
  | f::l,i=>if Yp (Zx f.res) c.2.1=true/\cb i=true/\(Zas (Rw.ZaJ f) c).2.2.2.1=false then (i:Int)::ZfZ cb c l (i+1) else ZfZ cb c l (i+1)
def cbK (A:List FlowP) (c:C8) (i:Nat):Bool:=match A[i]? with
  | some f=>ZA4 A f c.2.2.2.1
  | none=>false
def ZmJ (A:List FlowP) (c:C8):List Int:=ZfZ (cbK A c) c A 0
theorem ZHt {A:List FlowP} (hA:A.length<=256) {c:C8} {h:Zf} {s:Sl} {K:Sl->Zf->Prop} (hs:Row h s 12 (A.flatMap Rw.Zfh)) (hk:∀ h' t,Ext h h'->Own h' (sz h) t 1 ((ZmJ A c).map iv)->K t h'):ZgI s c K h:=by
  have ai:∀ (i:Nat) f,A[i]?=some f->∀ {h:Zf} {x:Sl} {K:Bool->Zf->Prop},Row h x 12 (A.flatMap Rw.Zfh)->(∀ h',Ext h h'->K (cbK A c i) h')->X6 x i c.2.2.2.1 K h:=fun i f hf {h x K} h1 P=>by
    unfold cbK at P;rw [hf] at P;exact ZtE hf hA c.2.2.2.1 h1 P
  unfold ZmJ at hk;generalize cbK A c=cb at ai hk;unfold ZgI ZiR;have hl:=Zan Zga hs (by decide);refine ZJ fun h1 c1 e1 z1=>ZJ fun P c2 e2 z2=>?_;have R:=Zj c1 e2;refine rI (Zb R rfl) (rS (Zb R rfl) (rS (Zb R rfl) (rS (Zb R rfl) (rB (Zb R rfl) (rI (Zb R rfl) (rL (s:=c.2.2.2.2.2.2.1) (Zb R rfl) ?_))))));unfold ZgH ZiQ;refine ZJ fun h3 c3 e3 z3=>ZJ fun g c4 e4 z4=>ZsV fun r C d5 r5 e5 z5=>?_;have w1:sz h1=sz h+1:=z1;have w2:sz P=sz h1+1:=z2;have w3:sz h3=sz P+1:=z3;have w4:sz g=sz h3+1:=z4;have w5:sz C=sz g+2:=z5;have x5:=Zj R ((e3.trans e4).trans e5);have s5:=Zj c2 ((e3.trans e4).trans e5);have a5:=Zj c3 (e4.trans e5);have b5:=Zj c4 e5;have aM:Ext h C:=(((e1.trans e2).trans e3).trans e4).trans e5;unfold ZeH Zhi
  refine Zg (rL (s:=s) (Zb a5 rfl) (Zbd (fun (p:Int × Unit) I=>∃ (i:Nat) (L:List Int) (t:Sl),p=((i:Int),())/\i<=A.length/\L.length<=i/\Upd (fun k=>k=sz h1\/k=sz g+1) C I/\obj I (sz h1)=some (.cells [slV t].toArray 85 (0,0))/\obj I (sz g+1)=some (Zdo r .ready none)/\Own I (sz C) t 1 (L.map iv)/\L++ZfZ cb c (A.drop i) i=ZfZ cb c A 0) (fun p _=>((A.length:Int) - p.1).toNat)
    ⟨0,[],sl0,rfl,Ayg _,Aqo _,Upd.refl _ _,s5,r5,Own.nil _ _ _,rfl⟩ ?_))
  rintro _ I ⟨i,L,t,rfl,bG,hL,u,sh,rh,ho,hm⟩ Q hQ;dsimp only;have keep:∀ {j:Nat} {x:Obj},obj C j=some x->j≠sz h1->j≠sz g+1->obj I j=some x:=fun {j x} hj n1 n2=>YZ hj u fun e=>e.elim n1 n2;have wh:sz C<=sz I:=u.size;have dh:=keep d5 (by omega) (by omega)
  have T:Ext h I:=aM.then u fun k a=>by rcases a with e | e<;>(rw [e];show sz h<=_;omega)
  refine Zn (fun q=>?_) fun q=>?_
  case refine_2 =>
    have hd:A.drop i=[]:=Ayq (by omega);rw [hd,show ZfZ cb c [] i=[] from rfl,Ayt] at hm;rw [hm] at ho;refine ⟨.ready,none,by decide,rh,?_⟩;rw [ZnL];refine Zh7 rh (K:=fun hx=>ldL hx (sz h1) 0 fun t46=>Zk3 (sz g) hx fun aO=>K t46 aO) fun h6 c6 u6 z6=>?_;have s6:obj h6 (sz h1)=_:=(u6.old _ (Zp sh) (show ¬ sz h1=sz g+1 by omega)).trans sh;have d6:obj h6 (sz g)=_:=(u6.old _ (Zp dh) (show ¬ sz g=sz g+1 by omega)).trans dh;refine rL (s:=t) (Zb s6 rfl) (Zva d6 fun h7 u7 z7=>hk h7 t ?_ ?_)
    ·exact (T.then u6 fun k a=>by subst a;show sz h<=sz g+1;omega).then u7 fun k a=>by subst a;show sz h<=sz g;omega
    ·exact ((ho.congr fun b U d aR=>u6.old b d (by show ¬ b=sz g+1;omega)).congr fun b U d aR=>u7.old b d (by show ¬ b=sz g;omega)).base (by omega)
  have hi:i<A.length:=by omega
  have ga:A[i]?=some A[i]:=Axy hi;have dr:A.drop i=A[i]::A.drop (i+1):=Ayo hi;rw [dr] at hm;generalize A[i]=f at ga hm;rw [show ZfZ cb c (f::A.drop (i+1)) i=if Yp (Zx f.res) c.2.1=true/\cb i=true/\(Zas (Rw.ZaJ f) c).2.2.2.1=false then (i:Int)::ZfZ cb c (A.drop (i+1)) (i+1) else ZfZ cb c (A.drop (i+1)) (i+1) from rfl] at hm;have V:IntKind.wrap .i64 ((i:Int)+1)=((i+1:Nat):Int):=wrS hi (by omega);have W:((A.length:Int) - ((i+1:Nat):Int)).toNat<((A.length:Int) - ((i:Nat):Int)).toNat:=by omega
  have skip:∀ {w:Zf},Ext I w->¬ (Yp (Zx f.res) c.2.1=true/\cb i=true/\(Zas (Rw.ZaJ f) c).2.2.2.1=false)->Q (IntKind.wrap .i64 ((i:Int)+1),()) w:=fun {w} e9 X=>by
    rw [if_neg X] at hm;rw [V];exact hQ _ _ ⟨i+1,L,t,rfl,hi,by omega,u.trans (e9.upd _),Zj sh e9,Zj rh e9,ho.congr (fun k a d _=>e9.old k d),hm⟩ W
  obtain ⟨b,o,hb,bM,an,G⟩:=ZbB Zga (hs.ext T) ga (by decide);refine an rfl (rS (G 0 _ rfl) (rS (G 1 _ rfl) (rB (G 2 _ rfl) (rI (G 3 _ rfl) (rI (G 4 _ rfl) (rS (G 5 _ rfl) (rI (G 6 _ rfl) (rI (G 7 _ rfl) (rI (G 8 _ rfl) (rB (G 9 _ rfl) (rI (G 10 _ rfl) (rB (G 11 _ rfl) (ZJ fun h6 c6 e6 z6=>Za (Zbe c6 fun h7 c7 u7 z7=>?_))))))))))))));have e7:Ext I h7:=e6.then u7 fun k a=>by subst a;exact Aqo _
  have bh:=keep b5 (by show sz h3≠sz h1;omega) (by show sz h3≠sz g+1;omega);have ah:=keep a5 (by show sz P≠sz h1;omega) (by show sz P≠sz g+1;omega);have xh:=keep x5 (by show sz h≠sz h1;omega) (by show sz h≠sz g+1;omega);have b7:=Zj bh e7;refine rS (Zb c7 rfl) (Zg (rS (Zb b7 rfl) ⟨fun q1=>Zg (rL (s:=s) (Zb (Zj ah e7) rfl) (Zg (rS (Zb b7 rfl) (ai i f ga (hs.ext (T.trans e7)) fun h8 e8=>⟨fun q2=>?_,fun q2=>skip (e7.trans e8) fun w=>by rw [w.2.1] at q2;cases q2⟩)))),fun q1=>skip e7 fun w=>by rw [show Yp (Zx f.res) c.2.1=false from q1] at w;cases w.1⟩));have H:=Zj c7 e8;have Y:=e7.trans e8;refine rS (Zb H rfl) (rS (Zb H rfl) (rB (Zb H rfl) (rI (Zb H rfl) (rI (Zb H rfl) (rS (Zb H rfl) (rI (Zb H rfl) (rI (Zb H rfl) (rI (Zb H rfl) (rB (Zb H rfl) (rI (Zb H rfl) (rB (Zb H rfl) ?_)))))))))));refine ZsJ rfl (Zj rh Y) ⟨(i,Rw.ZaJ f,()),rfl,Za (ZJ fun w c9 e9 z9=>Zbe c9 fun J aV aW bS=>?_)⟩;have ao:Ext h8 J:=e9.then aW fun k a=>by subst a;exact Aqo _
  have v:=Y.trans ao;refine ZvP (Zj rh v) fun E aq Z aX=>?_;have nr:∀ {j:Nat} {x:Obj},obj J j=some x->j≠sz g+1->obj E j=some x:=fun {j x} hj X=>(Z.old j (Zp hj) X).trans hj;have w8:sz I<=sz h8:=Y.size;have bT:sz h8<=sz J:=ao.size;have bU:sz E=sz J:=aX;have m:=nr aV (by show sz h8≠sz g+1;omega);have z:=nr (Zj xh v) (by show sz h≠sz g+1;omega);have O:=nr (Zj sh v) (by show sz h1≠sz g+1;omega);have D:Upd (fun k=>k=sz h1\/k=sz g+1) C E:=(u.trans (v.upd _)).trans (Z.mono fun k _ a=> .inr a);refine rS (Zb m rfl) (rS (Zb m rfl) (rB (Zb m rfl) (rI (Zb m rfl) (rI (Zb m rfl) (rS (Zb m rfl) (rI (Zb m rfl) (rI (Zb m rfl) (rI (Zb m rfl) (rB (Zb m rfl) (rI (Zb m rfl) (rB (Zb m rfl) ?_)))))))))));refine rI (Zb z rfl) (rS (Zb z rfl) (rS (Zb z rfl) (rS (Zb z rfl) (rB (Zb z rfl) (rI (Zb z rfl) (rL (s:=c.2.2.2.2.2.2.1) (Zb z rfl) ?_))))));have S:Own E (sz C) t 1 (L.map iv):=(ho.congr (h':=J) fun k a d _=>v.old k d).congr fun k a d U=>Z.old k d (by show ¬ k=sz g+1;omega);refine Ztt (r:=Rw.ZaJ f) (c:=c) fun aZ B=>⟨fun q3=>?_,fun q3=>?_⟩
  ·have qw:(Zas (Rw.ZaJ f) c).2.2.2.1=false:=by
     cases w:(Zas (Rw.ZaJ f) c).2.2.2.1 with
     | false=>rfl
     | true=>rw [w] at q3;cases q3
   rw [if_pos ⟨q1,q2,qw⟩] at hm;refine rL (s:=t) (Zb (Zj O B) rfl) (ZJ fun F ba bb bV=>(Zj1 ba rfl).rd ?_);have l:=B.trans bb;have tl:t.len=L.length:=by have:=ho.len;simp at this;omega
   have bW:sz E<=sz F:=l.size;have au:=S.congr (h':=F) fun k a d _=>l.old k d;refine au.app (n:=1) rfl rfl rfl (by omega) (by omega) (by show sz C<=sz F;omega) fun t9 bc av _ M bX=>?_;have tn:∀ {j:Nat},j<sz C->t.blk≠some j:=fun {j} hj e=>by have:=(ho.lt e).1;omega
   have bt:F.size=sz F:=rfl;have aw:∀ {j:Nat},j<sz C->t9.blk≠some j:=fun {j} hj e=>by have:=(av.lt e).1;omega
   refine Zbf (YZ (Zj O l) M (tn (show sz h1<sz C by omega))) (show 0<1 by decide) Zbp fun bf ax N bY=>?_;have ay:obj bf (sz g+1)=_:=YZ (YZ (Zj aq l) M (tn (show sz g+1<sz C by omega))) N (by show ¬ sz g+1=sz h1;omega);refine ⟨ay,Zh7 (y:=Zdo r .ready none) ay (K:=fun hx=>Zm (!(none:Option Code).isNone) _ _) fun bg aa u16 bj=>Zi rfl ?_⟩;rw [V];refine hQ _ _ ⟨i+1,L++[(i:Int)],t9,rfl,hi,by simp;omega,?_,(u16.old _ (Zp ax) (show ¬ sz h1=sz g+1 by omega)).trans ax,aa,?_,by rw [<- hm,Ayx];rfl⟩ W
   ·refine ⟨Aqp (Aqp D.size (Aqp l.size M.size)) (Aqp N.size u16.size),fun k a X=>?_⟩
    have bk:k<sz C:=a;have az:k<E.size:=Aqq a D.size;have aA:k<F.size:=Aqq az l.size;have aB:k<bc.size:=Aqq aA M.size;rw [u16.old k (Aqq aB N.size) (fun e=>X (.inr e)),N.old k aB (fun e=>X (.inl e)),M.old k aA (tn bk),l.old k az,D.old k a X]
   ·rw [Ayw]
    exact (av.congr fun k a d _=>N.old k d fun e=>aw (j:=sz h1) (by omega) (by rw [<- show k=sz h1 from e];exact a)).congr fun k a d _=>u16.old k d fun e=>aw (j:=sz g+1) (by omega) (by rw [<- show k=sz g+1 from e];exact a)
  ·have qw:(Zas (Rw.ZaJ f) c).2.2.2.1=true:=by
     cases w:(Zas (Rw.ZaJ f) c).2.2.2.1 with
     | true=>rfl
     | false=>rw [w] at q3;cases q3
   have aC:=Zj aq B;refine ⟨aC,Zh7 (y:=Zdo r .ready none) aC (K:=fun hx=>Zm (!(none:Option Code).isNone) _ _) fun bg aa u16 bj=>Zi rfl ?_⟩;rw [if_neg fun w=>by rw [w.2.2] at qw;cases qw] at hm;rw [V];exact hQ _ _ ⟨i+1,L,t,rfl,hi,by omega,(D.trans (B.upd _)).trans (u16.mono fun k _ a=> .inr a),(u16.old _ (Zp (Zj O B)) (show ¬ sz h1=sz g+1 by omega)).trans (Zj O B),aa,(S.congr (h':=aZ) fun k a d _=>B.old k d).congr (fun k a d U=>u16.old k d (by show ¬ k=sz g+1;omega)),hm⟩ W
end Go.Proofs.YthbfgkphlmlihaaGreat
namespace Go.Proofs.YthbfgkphlmlihaaGreat
open Go Go.Fw
open Nat renaming reduceAdd->Nqa,reduceLT->Nqb,reduceLeDiff->Nqc,reduceEqDiff->Nqd,reduceMul->Nqe
def Tree.idle (t:Tree) (k:K4):Bool:=match t.f k with
  | some n=>n.fl ==0
  | none=>true
theorem ZvB {h:Zf} {tb d:Nat} {O:Nat->Prop} {t:Tree} {T:TypeId} (g:ZaC h tb O t) (f:obj h d=some (.cells [.pointer (some ⟨tb,0,none⟩)].toArray T (0,0))) {k:K4} {K:Bool->Zf->Prop} (i:∀ h',Ext h h'->K (t.idle k) h'):Zcy k (some ⟨d,0,none⟩) K h:=by
  unfold Zcy Ze3;refine ZJ fun h1 c1 c m=>Zg (rP (Zb (Zj f c) rfl) (Zg ?_));obtain ⟨mb,j,b⟩:=(g.ext c).look k;have hd:Zo h1 [(d,0,.pointer (some ⟨tb,0,none⟩))]:=ZZ (Zb (Zj f c) rfl);have a:=i h1 c;unfold Tree.idle at a;refine rM j (rI (Zb c1 rfl) (rS (Zb c1 rfl) (rS (Zb c1 rfl) (rS (Zb c1 rfl) ?_))))
  rcases b with ⟨e,b⟩ | ⟨q,n,e,l,_,b,_⟩
  ·rw [e] at a
   exact b _ ⟨none,rfl,hd,ZjW ⟨hd,Zc a⟩⟩
  ·rw [e] at a
   exact b _ ⟨_,rfl,hd,ZkY l ⟨hd,Zc a⟩⟩
theorem ZxU {h:Zf} {tb v:Nat} {O:Nat->Prop} {t:Tree} {T:TypeId} (y:ZaC h tb O t) (z:obj h v=some (.cells [.pointer (some ⟨tb,0,none⟩)].toArray T (0,0))) {s:Sl} {l:List K4} (hs:Row h s 4 (l.flatMap k4L)) (hl:l.length<=100000)
    {K:Bool->Zf->Prop} (e:∀ h',Ext h h'->K (l.any t.idle) h'):ZD s (some ⟨v,0,none⟩,()) K h:=by
  unfold ZD ZT Z7 Yd;have hlen:=hs.len;rw [YV Zch] at hlen;have A:s.len=l.length:=(Ayf (by decide) hlen).symm;refine Za (Zbd (fun p w=>∃ i:Nat,p=((i:Int),())/\i<=l.length/\Ext h w/\(l.take i).any t.idle=false) (fun p _=>l.length - p.1.toNat) ⟨0,rfl,Ayg _,Ext.refl _,rfl⟩ ?_);rintro _ w ⟨i,rfl,B,he,j⟩ Q C;dsimp only;refine Zn (fun q=>?_) fun q=>?_
  ·have a:i<l.length:=by omega
   have f:l[i]?=some l[i]:=Axy a;generalize l[i]=k at f;obtain ⟨b,o,D,E,d,g⟩:=ZbB Zch (hs.ext he) f (by decide);have v0:=g 0 _ rfl;have v1:=g 1 _ rfl;have v2:=g 2 _ rfl;have v3:=g 3 _ rfl;have m:IntKind.wrap .i64 ((i:Int)+1)=((i+1:Nat):Int):=wrS a (by omega);have n:l.take (i+1)=l.take i++[k]:=by rw [Aym,f];rfl
   refine Za (d rfl (rI v0 (rS v1 (rS v2 (rS v3 (ZvB (y.ext he) (Zj z he) fun h1 x=>⟨fun r=>?_,fun r=>?_⟩))))))
   ·have:l.any t.idle=true:=List.any_eq_true.2 ⟨k,Axo f,r⟩
    rw [this] at e;refine Za (Zc ?_);have:decide ((i:Int)>=0)=true:=by simp
    rw [this];exact e _ (he.trans x)
   ·rw [m]
    refine C _ _ ⟨i+1,rfl,a,he.trans x,?_⟩ (by show l.length - ((i+1:Nat):Int).toNat<l.length - ((i:Nat):Int).toNat;omega);have u:t.idle k=false:=r;rw [n,List.any_append,j];simp [u]
  ·have c:l.take i=l:=Awd (by omega)
   rw [c] at j;rw [j] at e;exact Za (Zc (e _ he))
def Tree.ons (g:Node->Node):List K4->Tree->Tree
  | [],t=>t
  | k::l,t=>Tree.ons g l (t.on k g)
def Tree.doneE (t:Tree) (c:C8) (rt:Int):Int :=
  if ZiA c≠0 then ZiA c else if ¬ (0<=c.1/\c.1<=1152921504606846976) then 2 else if ¬ (0<=rt/\rt<=1152921504606846976) then 2 else if c.1<t.last then 7 else if (YK c).any t.idle=true then 4 else 0
def Tree.dones (t:Tree) (c:C8) (rt:Int) (f:Bool):Tree:=if t.doneE c rt=0 then (let t':=Tree.ons (fun n=>n.done c.1 rt f) (YK c) t;⟨t'.f,t'.keys,c.1⟩) else t
theorem ZvX {h:Zf} {tb:Nat} {O:Nat->Prop} {t:Tree} (ht:ZaC h tb O t) (hO:∀ j,O j->j<sz h) {c:C8} (hz:Zhs c) {rt:Int} {f:Bool} {K:Int->Zf->Prop}
    (B:∀ h',ZaC h' tb O (t.dones c rt f)->Upd O h h'->K (t.doneE c rt) h'):ZdU (some ⟨tb,0,none⟩) c rt f K h:=by
  have no:∀ e (a:Zf),Ext h a->e≠0->t.doneE c rt=e->K e a:=fun e a e9 h1 h2=>by
    have:=B a (by unfold Tree.dones;rw [if_neg (by rw [h2];exact h1)];exact ht.ext e9) (e9.upd _);rwa [h2] at this
  unfold ZdU Zgh;refine ZJ fun h1 c1 e1 z1=>ZJ fun h3 v e3 z3=>Za ?_;have p3:=Zj c1 e3;refine rP (Zb p3 rfl) (Zt (rI (Zb v rfl) (rS (Zb v rfl) (rS (Zb v rfl) (rS (Zb v rfl) (rB (Zb v rfl) (rI (Zb v rfl) (rL (Zb v rfl) ?_))))))));refine ZlB (c:=c) hz fun s l C D=>Za (Zc (ZfO (fun m=>Za ?_) fun m=>?_))
  ·exact no _ l ((e1.trans e3).trans C) m (by unfold Tree.doneE;rw [if_pos m])
  rw [if_pos m] at D;have d:Ext h l:=(e1.trans e3).trans C;have c4:=Zj v C;have p4:=Zj p3 C;have t4:=ht.ext d;refine rI (Zb c4 rfl) (ZlM ?_)
  by_cases E:0<=c.1/\c.1<=1152921504606846976
  case neg =>
    have:inB c.1 0 1152921504606846976=false:=by unfold inB;simp;omega
    rw [this];exact YC (Za (no 2 l d (by decide) (by unfold Tree.doneE;rw [if_neg (fun a=>a m),if_pos E])))
  have:inB c.1 0 1152921504606846976=true:=by unfold inB;simp;omega
  rw [this];refine Zt (ZlM ?_)
  by_cases W:0<=rt/\rt<=1152921504606846976
  case neg =>
    have:inB rt 0 1152921504606846976=false:=by unfold inB;simp;omega
    rw [this];exact Zc (YC (Za (no 2 l d (by decide) (by unfold Tree.doneE;rw [if_neg (fun a=>a m),if_neg (fun a=>a E),if_pos W]))))
  have:inB rt 0 1152921504606846976=true:=by unfold inB;simp;omega
  rw [this];refine Zc (Zt (rI (Zb c4 rfl) (rP (Zb p4 rfl) (Zg (rI t4.last (Zc (Zn (fun X=>Za (no 7 l d (by decide) ?_)) fun X=>?_)))))))
  ·unfold Tree.doneE;rw [if_neg (fun a=>a m),if_neg (fun a=>a E),if_neg (fun a=>a W),if_pos X]
  have aL:=ZmP c;refine ZxU t4 p4 D.row (by omega) fun F x=>Zc ⟨fun hi=>Za (no 4 F (d.trans x) (by decide) ?_),fun hi=>?_⟩
  ·unfold Tree.doneE;rw [if_neg (fun a=>a m),if_neg (fun a=>a E),if_neg (fun a=>a W),if_neg X,if_pos hi]
  have hE:t.doneE c rt=0:=by unfold Tree.doneE;rw [if_neg (fun a=>a m),if_neg (fun a=>a E),if_neg (fun a=>a W),if_neg X,if_neg (by rw [hi];decide)]
  have hN:t.dones c rt f=⟨(Tree.ons (fun n=>n.done c.1 rt f) (YK c) t).f,(Tree.ons (fun n=>n.done c.1 rt f) (YK c) t).keys,c.1⟩:=by unfold Tree.dones;rw [if_pos hE]
  rw [hE,hN] at B;have hlen:=D.row.len;rw [YV Zch] at hlen;have aN:s.len=(YK c).length:=(Ayf (by decide) hlen).symm;have ai:=d.trans x;have w1:sz h1=sz h+1:=z1;have w3:sz h3=sz h1+1:=z3;have w4:sz h3<=sz l:=C.size;have aO:sz l<=sz F:=x.size;have rows:∀ b,s.blk=some b->sz h<=b/\b<sz l:=fun b hb=>by have:sz h3<=b/\b<sz l:=D.lt hb;omega
  have G:∀ k∈YK c,t.isNew k=false:=fun k ak=>by
    have:=List.any_eq_false.1 hi k ak;unfold Tree.idle at this;unfold Tree.isNew
    cases hf:t.f k with
    | none=>rw [hf] at this;exact absurd rfl this
    | some n=>rfl
  refine Zbd (fun p r=>∃ (i:Nat) (H:List K4) (t2:Tree),p=((i:Int),())/\i<=(YK c).length/\(YK c).drop i=H/\Tree.ons (fun n=>n.done c.1 rt f) H t2=Tree.ons (fun n=>n.done c.1 rt f) (YK c) t/\ZaC r tb O t2/\(∀ k∈YK c,t2.isNew k=false)/\Upd O F r)
    (fun p _=>(YK c).length - p.1.toNat) ⟨0,_,t,rfl,Ayg _,rfl,rfl,t4.ext x,G,Upd.refl _ _⟩ ?_
  rintro _ r ⟨i,H,t2,rfl,aQ,I,J,L,w,hu⟩ Q hQ;have Y:∀ j,sz h<=j->¬ O j:=fun j M a=>by have:=hO j a;omega
  have old:∀ {j:Nat} {y:Obj},obj F j=some y->¬ O j->obj r j=some y:=fun {j y} M hn=>(hu.old j (Zp M) hn).trans M;have p6:obj r (sz h)=_:=old (Zj p4 x) (Y _ (Aqo _));have c6:obj r (sz h1)=_:=old (Zj c4 x) (Y _ (by omega));have w6:sz F<=sz r:=hu.size;dsimp only;refine Zn (fun q=>?_) fun q=>?_
  ·have g:i<(YK c).length:=by omega
   have hg:(YK c)[i]?=some (YK c)[i]:=Axy g;have N:H=(YK c)[i]::(YK c).drop (i+1):=by rw [<- I];exact Ayo g
   have P:=Ayy g;generalize (YK c)[i]=k at hg N P;subst N;have R:Row r s 4 ((YK c).flatMap k4L):=(D.row.ext x).congr fun b o hb _ hl=>hu.old b hl (Y _ (rows b (by simp [Sl.blk,hb])).1);obtain ⟨b,o,aT,aU,S,u⟩:=ZbB Zch R hg (by decide);have v0:=u 0 _ rfl;have v1:=u 1 _ rfl;have v2:=u 2 _ rfl;have v3:=u 3 _ rfl;have an:IntKind.wrap .i64 ((i:Int)+1)=((i+1:Nat):Int):=wrS g (by omega);refine S rfl (rI v0 (rS v1 (rS v2 (rS v3 (ZJ fun h7 c7 e7 z7=>Zbe c7 fun h8 Z u8 z8=>?_)))));have e8:Ext r h8:=e7.then u8 fun k B=>by subst B;exact Aqo _
   have p8:=Zj p6 e8;have d8:=Zj c6 e8;have t8:=L.ext e8;obtain ⟨mb,ao,aq⟩:=t8.look k;refine rP (Zb p8 rfl) (Zg (rM ao (rI (Zb Z rfl) (rS (Zb Z rfl) (rS (Zb Z rfl) (rS (Zb Z rfl) (rI (Zb d8 rfl) ?_)))))))
   rcases aq with ⟨z,_⟩ | ⟨q9,n9,z,ar,T,au,U⟩
   ·have:=w k P;unfold Tree.isNew at this;rw [z] at this;cases this
   refine au _ ⟨_,rfl,ZZ (Zb d8 rfl),ZZ (Zb p8 rfl),Zv4 ar fun V n10 A=>?_⟩;have t10:=U V _ n10 A;have av:obj V (sz h)=_:=(A.old (sz h) (Zp p8) (fun aw=>Y _ (Aqo _) (T _ aw).1)).trans p8;refine ⟨ZZ (Zb av rfl),?_⟩;rw [an];have ax:t2.on k (fun n=>n.done c.1 rt f)=t2.put k (n9.done c.1 rt f):=by unfold Tree.on;rw [z]
   refine hQ _ _ ⟨i+1,(YK c).drop (i+1),t2.on k (fun n=>n.done c.1 rt f),rfl,g,rfl,J,by rw [ax];exact t10,fun j M=>(ZBB _ _ _ _).trans (w j M),?_⟩ (by show (YK c).length - ((i+1:Nat):Int).toNat<(YK c).length - ((i:Nat):Int).toNat;omega);exact (hu.trans (e8.upd O)).trans (A.mono fun j _ hq=>(T j hq).1)
  ·have ay:H=[]:=by rw [<- I];exact Ayq (by omega)
   subst ay;refine rP (Zb p6 rfl) (rI (Zb c6 rfl) (Zg (L.setLast fun h7 t7 u7=>Za (B h7 ?_ ?_))))
   ·rw [<- J];exact t7
   ·exact ((ai.upd O).trans hu).trans u7
end Go.Proofs.YthbfgkphlmlihaaGreat
namespace Go.Proofs.YthbfgkphlmlihaaGreat
open Go Go.Fw Go.Js
abbrev nl:Sl:=⟨none,0,0⟩
abbrev bkL (a:Nat) (g:Int):List Value:=[.pointer (some ⟨a,0,none⟩),iv g]
def Tree.zero:Tree:=⟨fun _=>none,[],0⟩
inductive Tg
  | ro
  | p (b:Nat)
abbrev TgM:=Nat->Option Tg
def Zdl (T T':TgM):Prop:=∀ j,T j≠none->T' j=T j
theorem Zdl.refl (T:TgM):Zdl T T:=fun _ _=>rfl
theorem Zdl.trans {T T' T'':TgM} (a:Zdl T T') (b:Zdl T' T''):Zdl T T'':=fun j c=>by
  have e:=a j c;exact (b j (by rw [e];exact c)).trans e
theorem Zdl.to {T T':TgM} (s:Zdl T T') {j:Nat} {t:Tg} (h:T j=some t):T' j=some t:=(s j (by rw [h];exact fun e=>by cases e)).trans h
def Zh3 (T:TgM) (t:Tg) (lo hi:Nat):TgM:=fun j=>if lo<=j/\j<hi then some t else T j
theorem Zip {T:TgM} {t:Tg} {lo hi j:Nat} (h:lo<=j/\j<hi):Zh3 T t lo hi j=some t:=if_pos h
theorem ZgB {T:TgM} {t:Tg} {lo hi:Nat} (hT:∀ j,T j≠none->j<lo):Zdl T (Zh3 T t lo hi):=fun j a=>if_neg fun h=>by have:=hT j a;omega
theorem Zm9 {T:TgM} {t:Tg} {lo hi n:Nat} (hT:∀ j,T j≠none->j<n) (b:hi<=n):∀ j,Zh3 T t lo hi j≠none->j<n:=fun j a=>by
  unfold Zh3 at a;split at a
  ·omega
  ·exact hT j a
theorem ZbA {T:TgM} {n:Nat} (hT:∀ j,T j≠none->j<n) {j:Nat} {t:Tg} (h:T j=some t):j<n:=hT j (by rw [h];exact fun e=>by cases e)
def Zdi (D:Nat->Prop) (T:TgM) (h h':Zf):Prop:=∀ j t,T j=some t->(∀ d,D d->t≠ .p d)->obj h' j=obj h j
theorem Zdi.of {D:Nat->Prop} {T:TgM} {h h':Zf} (hT:∀ j,T j≠none->j<sz h) (u:Upd (fun j=>∃ d,D d/\T j=some (.p d)) h h'):Zdi D T h h':=fun j t c hd =>
  u.old j (ZbA hT c) fun ⟨d,b,a⟩=>hd d b (by rw [c] at a;exact Option.some.inj a)
abbrev hdT (T:TgM):Nat->Prop:=fun j=>T j=some (.p j)
abbrev inT (T:TgM) (b:Nat):Nat->Prop:=fun j=>T j=some (.p b)
abbrev roT (T:TgM):Nat->Prop:=fun j=>T j=some .ro
abbrev ShP:=Option Addr × Option Addr
def Ztp:Option Addr->List Nat
  | none=>[]
  | some a=>[a.block]
def hdP (p:ShP):List Nat:=Ztp p.1++Ztp p.2
def shL (p:ShP):List Value:=[.pointer p.1,.pointer p.2]
abbrev BkW:={ B:BkS // WOK B.r } × Int
def BrP (h:Zf) (T:TgM) (b:Nat) (B:BkW):Prop:=BkR h b (inT T b) B.1.1 B.1.2
def HoP (h:Zf) (T:TgM) (b:Nat) (H:HtS):Prop:=∃ a,HtR h b a H/\∀ j,a j≠none->T j=some (.p b)
structure Ent where
  c:C8
  ov:Bool
  pr:List Int
def ZHf (c:C8) (ov:Bool) (s:Sl):Value:= .agg #[iv c.1,.string c.2.1,.string c.2.2.1,.string c.2.2.2.1,.bool c.2.2.2.2.1,iv c.2.2.2.2.2.1,slV nl,.bool ov,slV s]
structure EnI (h:Zf) (T:TgM) (fm:Nat) (en:Int->Option Ent) (f:Int->Option Value) (n:Nat):Prop where
  m:ZlA h fm f n
  e:∀ k,(en k=none/\f k=none)\/∃ e s,en k=some e/\f k=some (ZHf e.c e.ov s)/\Row h s 1 (e.pr.map iv)/\Rw.inS (roT T) s
def EnR (h:Zf) (T:TgM) (fm:Nat) (en:Int->Option Ent):Prop:=∃ f n,EnI h T fm en f n
section
variable {D:Nat->Prop} {T T':TgM} {h h':Zf}
theorem Zdi.head {b:Nat} (u:Zdi D T h h') (a:¬ D b) {j:Nat} (h1:T j=some (.p b)):obj h' j=obj h j:=u j _ h1 fun d hd e=>by cases e;exact a hd
theorem Zdi.ro (u:Zdi D T h h') {j:Nat} (h1:T j=some .ro):obj h' j=obj h j:=u j _ h1 fun d hd e=>by cases e
theorem Zna (u:Zdi D T h h') (s:Zdl T T') {p:ShP} {x:ShS} (d:ShR h (hdT T) p x) (hd:∀ b,b∈hdP p->¬ D b):ShR h' (hdT T') p x:=by
  obtain ⟨g,i⟩:=p;refine ⟨?_,?_⟩
  ·cases a:x.1 with
   | none=>have:=d.1;rw [a] at this;exact this
   | some y =>
     have:=d.1;rw [a] at this;obtain ⟨b,e,c,o⟩:=this;have f:g=some ⟨b,0,none⟩:=e;exact ⟨b,e,(u.head (hd b (by unfold hdP Ztp;rw [f];simp)) o).trans c,s.to o⟩
  ·cases a:x.2 with
   | none=>have:=d.2;rw [a] at this;exact this
   | some y =>
     have:=d.2;rw [a] at this;obtain ⟨b,e,c,o⟩:=this;have f:i=some ⟨b,0,none⟩:=e;exact ⟨b,e,(u.head (hd b (by unfold hdP Ztp;rw [f];simp)) o).trans c,s.to o⟩
theorem Zoe (u:Zdi D T h h') (s:Zdl T T') {b:Nat} {B:BkW} (c:BrP h T b B) (hd:¬ D b):BrP h' T' b B :=
  (BkR.congr c fun j a _=>u.head hd a).mono fun j a=>s.to a
theorem ZnT (u:Zdi D T h h') (s:Zdl T T') (hz:sz h<=sz h') {b:Nat} {H:HtS} (d:HoP h T b H) (hd:¬ D b):HoP h' T' b H:=by
  obtain ⟨e,⟨g,S,i,kb,f,n,wt,sl,lb,hm⟩,c⟩:=d;exact ⟨e,⟨g,S,i,kb,f,n,wt,sl,lb,hm.congr (fun j a=>u.head hd (c j a)) hz⟩,fun j a=>s.to (c j a)⟩
theorem ZkB (u:Zdi D T h h') (s:Zdl T T') {x:Sl} {n:Nat} {vs:List Value} (r:Row h x n vs) (c:Rw.inS (roT T) x):Row h' x n vs/\Rw.inS (roT T') x :=
  ⟨Rw.ZgC r c fun b a _=>u.ro a,c.mono fun b a=>s.to a⟩
theorem ZkS (u:Zdi D T h h') (s:Zdl T T') {fm:Nat} {en:Int->Option Ent} (c:EnR h T fm en) (d:T fm=some (.p fm)) (hd:¬ D fm):EnR h' T' fm en:=by
  obtain ⟨f,n,hm,he⟩:=c;refine ⟨f,n,hm.congr (u.head hd d),fun k=>?_⟩
  rcases he k with h1 | ⟨e,sl,h1,g,h3,i⟩
  ·exact .inl h1
  ·obtain ⟨a,b⟩:=ZkB u s h3 i
   exact .inr ⟨e,sl,h1,g,a,b⟩
theorem ZgW (u:Zdi D T h h') (s:Zdl T T') {tb:Nat} {t:Tree} (b:ZaC h tb (inT T tb) t) (hd:¬ D tb):ZaC h' tb (inT T' tb) t :=
  (b.congr fun j a _=>u.head hd a).mono fun j a=>s.to a
theorem XI (u:Zdi D T h h') (s:Zdl T T') {z:Rw.VTR} {r:RulesP} (c:Rw.Xe h (roT T) z r):Rw.Xe h' (roT T') z r :=
  (c.keep fun b a _=>u.ro a).mono fun b _ a=>s.to a
end
theorem Zn3 {α:Type} {g:α->List Nat}:∀ {l:List α},(l.flatMap g).Nodup->∀ {i j:Nat} {x y:α},l[i]?=some x->l[j]?=some y->i≠j->∀ {a:Nat},a∈g x->a∉g y
  | [],_,i,_,_,_,h,_,_,_,_,_=>by cases h
  | b::l,k,i,j,x,y,hi,d,e,a,f,c=>by
    rw [Aye,List.nodup_append] at k;obtain ⟨o,n,m⟩:=k
    cases i with
    | zero =>
      cases j with
      | zero=>exact e rfl
      | succ j =>
        cases hi;exact m a f a (List.mem_flatMap.2 ⟨y,Axo (by simpa using d),c⟩) rfl
    | succ i =>
      cases j with
      | zero =>
        cases d;exact m a c a (List.mem_flatMap.2 ⟨x,Axo (by simpa using hi),f⟩) rfl
      | succ j=>exact Zn3 n (by simpa using hi) (by simpa using d) (by omega) f c
theorem Zuh {α:Type} {g:α->List Nat}:∀ {l:List α},(l.flatMap g).Nodup->∀ {i:Nat} {x:α},l[i]?=some x->(g x).Nodup
  | [],_,i,_,h=>by cases h
  | b::l,a,i,x,hi=>by
    rw [Aye,List.nodup_append] at a
    cases i with
    | zero=>cases hi;exact a.1
    | succ i=>exact Zuh a.2.1 (by simpa using hi)
theorem ZqJ {α:Type} {g:α->List Nat} {l:List α} {i:Nat} {x y:α} (hi:l[i]?=some x) (a:g y=g x):(l.set i y).flatMap g=l.flatMap g:=by
  induction l generalizing i with
  | nil=>cases hi
  | cons b l c =>
    cases i with
    | zero=>cases hi;simp [a]
    | succ i=>simp [c (by simpa using hi)]
theorem Zn2 {α:Type} {g:α->List Value} {l:List α} {i:Nat} {x y:α} (hi:l[i]?=some x) (a:g y=g x):(l.set i y).flatMap g=l.flatMap g:=by
  induction l generalizing i with
  | nil=>cases hi
  | cons b l c =>
    cases i with
    | zero=>cases hi;simp [a]
    | succ i=>simp [c (by simpa using hi)]
structure GS where
  keys:Int
  seed:Int
  r:RulesP
  fl:List ShS
  br:List BkW
  ho:List HtS
  g:Int
  t:Tree
  ld:Int
  cp:Int
  en:Int->Option Ent
  op:Int
  nx:Int
  la:Int
def ZAu (f:FlowP) (s:ShS):Prop:=(f.shape=2\/f.shape=3->s.1≠none)/\(f.shape=1\/f.shape=3->s.2≠none)
structure GOK (G:GS):Prop where
  we:G.r.whereE.2.2=0
  fit:Rw.RulesP.fit G.r
  lf:G.fl.length=G.r.fl.length
  lb:G.br.length=G.r.br.length
  lh:G.ho.length=G.r.ho.length
  sh:∀ (i:Nat) (f:FlowP) (s:ShS),G.r.fl[i]?=some f->G.fl[i]?=some s->ZAu f s
  keys:1<=G.keys/\G.keys<=4096
  en:∀ (k:Int) (e:Ent),G.en k=some e->Zhs e.c
theorem GOK.good {G:GS} (ok:GOK G):Good G.r:=ZqH ok.we
abbrev geL (G:GS) (sb tb fm:Nat) (r:Rw.VTR) (f1 b1 h1:Sl):List Value :=
  [iv G.keys,.int .u64 G.seed,.pointer (some ⟨sb,0,none⟩),slV r.1,slV r.2.1,slV r.2.2.1,slV r.2.2.2.1,slV r.2.2.2.2.1,slV f1,slV b1,slV h1,iv G.g,.pointer (some ⟨tb,0,none⟩),iv G.ld,iv G.cp,.map (some fm),iv G.op,iv G.nx,iv G.la]
abbrev geO (G:GS) (sb tb fm:Nat) (r:Rw.VTR) (f1 b1 h1:Sl):Obj:= .cells (geL G sb tb fm r f1 b1 h1).toArray 82 (0,0)
structure Lay where
  eb:Nat
  sb:Nat
  tb:Nat
  fm:Nat
  z:Rw.VTR
  zs:Rw.VTR
  g:Int
  f1:Sl
  b1:Sl
  h1:Sl
  fs:List (ShP × ShS)
  bs:List (Nat × BkW)
  hs:List (Nat × HtS)
def Lay.hds (L:Lay):List Nat:=L.eb::L.sb::L.tb::L.fm::(L.fs.flatMap (fun x=>hdP x.1)++(L.bs.flatMap (fun x=>[x.1])++L.hs.flatMap (fun x=>[x.1])))
structure FlR (h:Zf) (T:TgM) (f1:Sl) (fs:List (ShP × ShS)):Prop where
  r:Row h f1 2 (fs.flatMap fun x=>shL x.1)
  o:Rw.inS (roT T) f1
  e:∀ (i:Nat) (x:ShP × ShS),fs[i]?=some x->ShR h (hdT T) x.1 x.2
structure BsR (h:Zf) (T:TgM) (b1:Sl) (bs:List (Nat × BkW)):Prop where
  r:Row h b1 2 (bs.flatMap fun x=>bkL x.1 x.2.2)
  o:Rw.inS (roT T) b1
  e:∀ (i:Nat) (x:Nat × BkW),bs[i]?=some x->BrP h T x.1 x.2
structure HsR (h:Zf) (T:TgM) (h1:Sl) (hs:List (Nat × HtS)):Prop where
  r:Row h h1 1 (hs.flatMap fun x=>[pN x.1])
  o:Rw.inS (roT T) h1
  e:∀ (i:Nat) (x:Nat × HtS),hs[i]?=some x->HoP h T x.1 x.2
structure Za9 (h:Zf) (T:TgM) (L:Lay) (G:GS):Prop where
  cells:obj h L.eb=some (geO G L.sb L.tb L.fm L.z L.f1 L.b1 L.h1)
  eT:T L.eb=some (.p L.eb)
  store:obj h L.sb=some (ZoX L.zs L.g)
  sT:T L.sb=some (.p L.sb)
  rz:Rw.Xe h (roT T) L.z G.r
  rs:Rw.Xe h (roT T) L.zs G.r
  tree:ZaC h L.tb (inT T L.tb) G.t
  ent:EnR h T L.fm G.en
  fT:T L.fm=some (.p L.fm)
  lf:L.fs.map (·.2)=G.fl
  lb:L.bs.map (·.2)=G.br
  lh:L.hs.map (·.2)=G.ho
  fl:FlR h T L.f1 L.fs
  br:BsR h T L.b1 L.bs
  ho:HsR h T L.h1 L.hs
  nd:L.hds.Nodup
  hT:∀ j,T j≠none->j<sz h
section
variable {D:Nat->Prop} {T T':TgM} {h h':Zf} {L:Lay} {G:GS}
theorem FlR.keep {f1:Sl} {fs:List (ShP × ShS)} (u:Zdi D T h h') (s:Zdl T T') (d:FlR h T f1 fs) (hd:∀ b,b∈fs.flatMap (fun x=>hdP x.1)->¬ D b):FlR h' T' f1 fs:=by
  obtain ⟨a,b⟩:=ZkB u s d.r d.o;exact ⟨a,b,fun i x hi=>Zna u s (d.e i x hi) fun c f=>hd c (List.mem_flatMap.2 ⟨x,Axo hi,f⟩)⟩
theorem BsR.keep {f1:Sl} {fs:List (Nat × BkW)} (u:Zdi D T h h') (s:Zdl T T') (c:BsR h T f1 fs) (hd:∀ b,b∈fs.flatMap (fun x=>[x.1])->¬ D b):BsR h' T' f1 fs:=by
  obtain ⟨a,b⟩:=ZkB u s c.r c.o;exact ⟨a,b,fun i x hi=>Zoe u s (c.e i x hi) (hd x.1 (List.mem_flatMap.2 ⟨x,Axo hi,by simp⟩))⟩
theorem HsR.keep {f1:Sl} {fs:List (Nat × HtS)} (u:Zdi D T h h') (s:Zdl T T') (hz:sz h<=sz h') (c:HsR h T f1 fs) (hd:∀ b,b∈fs.flatMap (fun x=>[x.1])->¬ D b):HsR h' T' f1 fs:=by
  obtain ⟨a,b⟩:=ZkB u s c.r c.o;exact ⟨a,b,fun i x hi=>ZnT u s hz (c.e i x hi) (hd x.1 (List.mem_flatMap.2 ⟨x,Axo hi,by simp⟩))⟩
theorem Za9.keep (a:Za9 h T L G) (u:Zdi (fun _=>False) T h h') (s:Zdl T T') (hz:sz h<=sz h') (hT:∀ j,T' j≠none->j<sz h'):Za9 h' T' L G :=
  ⟨(u.head id a.eT).trans a.cells,s.to a.eT,(u.head id a.sT).trans a.store,s.to a.sT,XI u s a.rz,XI u s a.rs,ZgW u s a.tree id,ZkS u s a.ent a.fT id,s.to a.fT,
    a.lf,a.lb,a.lh,a.fl.keep u s fun _ _=>id,a.br.keep u s fun _ _=>id,a.ho.keep u s hz fun _ _=>id,a.nd,hT⟩
theorem Za9.ext (a:Za9 h T L G) (e:Ext h h'):Za9 h' T L G:=a.keep (fun j t b _=>ZG e (ZbA a.hT b)) (Zdl.refl T) e.size fun j c=>Aqq (a.hT j c) e.size
theorem Za9.frame (a:Za9 h T L G) {S:Nat->Prop} (u:Upd S h h') (c:∀ j,S j->T j=none):Za9 h' T L G :=
  a.keep (fun j t b _=>u.old j (ZbA a.hT b) fun hs=>by rw [c j hs] at b;cases b) (Zdl.refl T) u.size fun j d=>Aqq (a.hT j d) u.size
theorem ZrJ {L:Lay} (c:L.hds.Nodup):(L.sb≠L.eb/\L.tb≠L.eb/\L.fm≠L.eb/\∀ b,b∈L.fs.flatMap (fun x=>hdP x.1)++(L.bs.flatMap (fun x=>[x.1])++L.hs.flatMap (fun x=>[x.1]))->b≠L.eb)/\(L.tb≠L.sb/\L.fm≠L.sb/\∀ b,b∈L.fs.flatMap (fun x=>hdP x.1)++(L.bs.flatMap (fun x=>[x.1])++L.hs.flatMap (fun x=>[x.1]))->b≠L.sb)/\(L.fm≠L.tb/\∀ b,b∈L.fs.flatMap (fun x=>hdP x.1)++(L.bs.flatMap (fun x=>[x.1])++L.hs.flatMap (fun x=>[x.1]))->b≠L.tb)/\(∀ b,b∈L.fs.flatMap (fun x=>hdP x.1)++(L.bs.flatMap (fun x=>[x.1])++L.hs.flatMap (fun x=>[x.1]))->b≠L.fm)/\(L.fs.flatMap (fun x=>hdP x.1)++(L.bs.flatMap (fun x=>[x.1])++L.hs.flatMap (fun x=>[x.1]))).Nodup:=by
  unfold Lay.hds at c;simp only [Ayp,Awr,not_or] at c;obtain ⟨⟨d,f,a3,a4⟩,⟨b1,b2,g⟩,⟨c1,h⟩,d1,d2⟩:=c;exact ⟨⟨Ne.symm d,Ne.symm f,Ne.symm a3,fun b a e=>a4 (e▸a)⟩,⟨Ne.symm b1,Ne.symm b2,fun b a e=>g (e▸a)⟩,⟨Ne.symm c1,fun b a e=>h (e▸a)⟩,fun b a e=>d1 (e▸a),d2⟩
theorem ZEj {L:Lay} (c:L.hds.Nodup):(L.fs.flatMap (fun x=>hdP x.1)).Nodup/\(L.bs.flatMap (fun x=>[x.1])).Nodup/\(L.hs.flatMap (fun x=>[x.1])).Nodup/\(∀ b,b∈L.fs.flatMap (fun x=>hdP x.1)->b∉L.bs.flatMap (fun x=>[x.1])/\b∉L.hs.flatMap (fun x=>[x.1]))/\∀ b,b∈L.bs.flatMap (fun x=>[x.1])->b∉L.hs.flatMap (fun x=>[x.1]):=by
  obtain ⟨_,_,_,_,c⟩:=ZrJ c;rw [List.nodup_append] at c;obtain ⟨g,e,f⟩:=c;rw [List.nodup_append] at e;obtain ⟨h,i,j⟩:=e;exact ⟨g,h,i,fun b d=>⟨fun a=>f b d b (Axx.2 (.inl a)) rfl,fun a=>f b d b (Axx.2 (.inr a)) rfl⟩,fun b d a=>j b d b a rfl⟩
theorem Zta {b:Nat} (hT:∀ j,T j≠none->j<sz h) (c:T b=some (.p b)) (u:Upd (· = b) h h'):Zdi (· = b) T h h':=fun j t a hd=>u.old j (ZbA hT a) fun e=>by
  have d:j=b:=e;subst d;rw [c] at a;cases a;exact hd j rfl rfl
theorem Za9.set (a:Za9 h T L G) {ld cp op nx la:Int} (e:obj h' L.eb=some (geO { G with ld:=ld,cp:=cp,op:=op,nx:=nx,la:=la } L.sb L.tb L.fm L.z L.f1 L.b1 L.h1)) (u:Upd (· = L.eb) h h'):Za9 h' T L { G with ld:=ld,cp:=cp,op:=op,nx:=nx,la:=la }:=by
  obtain ⟨⟨f,g,i,d⟩,_⟩:=ZrJ a.nd;have k:=Zta a.hT a.eT u;have s:=Zdl.refl T;have l:∀ b,b∈L.fs.flatMap (fun x=>hdP x.1)->¬ b=L.eb:=fun b c=>d b (Axx.2 (.inl c));have m:∀ b,b∈L.bs.flatMap (fun x=>[x.1])->¬ b=L.eb:=fun b c=>d b (Axx.2 (.inr (Axx.2 (.inl c))));have n:∀ b,b∈L.hs.flatMap (fun x=>[x.1])->¬ b=L.eb:=fun b c=>d b (Axx.2 (.inr (Axx.2 (.inr c))))
  exact ⟨e,a.eT,(k.head f a.sT).trans a.store,a.sT,XI k s a.rz,XI k s a.rs,ZgW k s a.tree g,ZkS k s a.ent a.fT i,a.fT,
    a.lf,a.lb,a.lh,a.fl.keep k s l,a.br.keep k s m,a.ho.keep k s u.size n,a.nd,fun j o=>Aqq (a.hT j o) u.size⟩
theorem Za9.tree' {O':Nat->Prop} {t':Tree} (a:Za9 h T L G) (f:ZaC h' L.tb O' t') (u:Upd (inT T L.tb) h h') (gr:Zsl (inT T L.tb) O' h h'):Za9 h' (Zh3 T (.p L.tb) (sz h) (sz h')) L { G with t:=t' }:=by
  obtain ⟨⟨_,i,_,_⟩,⟨l,_,_⟩,⟨m,e⟩,_⟩:=ZrJ a.nd;have k:Zdi (· = L.tb) T h h':=Zdi.of a.hT (u.mono fun j _ c=>⟨L.tb,rfl,c⟩);have s:Zdl T (Zh3 T (.p L.tb) (sz h) (sz h')):=ZgB a.hT;have n:∀ b,b∈L.fs.flatMap (fun x=>hdP x.1)->¬ b=L.tb:=fun b d=>e b (Axx.2 (.inl d));have o:∀ b,b∈L.bs.flatMap (fun x=>[x.1])->¬ b=L.tb:=fun b d=>e b (Axx.2 (.inr (Axx.2 (.inl d))));have q:∀ b,b∈L.hs.flatMap (fun x=>[x.1])->¬ b=L.tb:=fun b d=>e b (Axx.2 (.inr (Axx.2 (.inr d))))
  refine ⟨(k.head (Ne.symm i) a.eT).trans a.cells,s.to a.eT,(k.head (Ne.symm l) a.sT).trans a.store,s.to a.sT,XI k s a.rz,XI k s a.rs,f.mono fun j c=>?_,ZkS k s a.ent a.fT m,s.to a.fT,
    a.lf,a.lb,a.lh,a.fl.keep k s n,a.br.keep k s o,a.ho.keep k s u.size q,a.nd,Zm9 (fun j c=>Aqq (a.hT j c) u.size) (Aqo _)⟩
  rcases gr.1 j c with g | g
  ·exact s.to g
  ·exact Zip g
theorem Za9.mapped (a:Za9 h T L G) {en:Int->Option Ent} (hm:EnR h' T L.fm en) (u:Upd (· = L.fm) h h'):Za9 h' T L { G with en:=en }:=by
  obtain ⟨⟨_,_,d,_⟩,⟨_,e,_⟩,⟨t3,_⟩,f4,_⟩:=ZrJ a.nd;have k:=Zta a.hT a.fT u;have s:=Zdl.refl T;have f:∀ b,b∈L.fs.flatMap (fun x=>hdP x.1)->¬ b=L.fm:=fun b c=>f4 b (Axx.2 (.inl c));have g:∀ b,b∈L.bs.flatMap (fun x=>[x.1])->¬ b=L.fm:=fun b c=>f4 b (Axx.2 (.inr (Axx.2 (.inl c))));have i:∀ b,b∈L.hs.flatMap (fun x=>[x.1])->¬ b=L.fm:=fun b c=>f4 b (Axx.2 (.inr (Axx.2 (.inr c))))
  exact ⟨(k.head (Ne.symm d) a.eT).trans a.cells,a.eT,(k.head (Ne.symm e) a.sT).trans a.store,a.sT,XI k s a.rz,XI k s a.rs,ZgW k s a.tree (Ne.symm t3),hm,a.fT,
    a.lf,a.lb,a.lh,a.fl.keep k s f,a.br.keep k s g,a.ho.keep k s u.size i,a.nd,fun j l=>Aqq (a.hT j l) u.size⟩
end
section
variable {T T':TgM} {h h':Zf} {L:Lay} {G:GS}
theorem Za9.ge (a:Za9 h T L G) {i:Nat} {x:ShP × ShS} (b:L.fs[i]?=some x):G.fl[i]?=some x.2:=by rw [<- a.lf,Awy,b];rfl
theorem Za9.gf (b:Za9 h T L G) {i:Nat} {s:ShS} (a:G.fl[i]?=some s):∃ p,L.fs[i]?=some (p,s):=by
  rw [<- b.lf,Awy] at a
  cases q:L.fs[i]? with
  | none=>rw [q] at a;cases a
  | some x=>rw [q] at a;cases a;exact ⟨x.1,rfl⟩
theorem Za9.gb (b:Za9 h T L G) {i:Nat} {s:BkW} (a:G.br[i]?=some s):∃ p,L.bs[i]?=some (p,s):=by
  rw [<- b.lb,Awy] at a
  cases q:L.bs[i]? with
  | none=>rw [q] at a;cases a
  | some x=>rw [q] at a;cases a;exact ⟨x.1,rfl⟩
theorem Za9.gh (b:Za9 h T L G) {i:Nat} {s:HtS} (a:G.ho[i]?=some s):∃ p,L.hs[i]?=some (p,s):=by
  rw [<- b.lh,Awy] at a
  cases q:L.hs[i]? with
  | none=>rw [q] at a;cases a
  | some x=>rw [q] at a;cases a;exact ⟨x.1,rfl⟩
theorem Zqe {α:Type} {l:List α} {i j:Nat} {x y:α} (h:(l.set i x)[j]?=some y):(j=i/\y=x)\/(j≠i/\l[j]?=some y):=by
  by_cases e:i=j
  ·subst e
   rw [List.getElem?_set_self'] at h
   cases q:l[i]? with
   | none=>rw [q] at h;cases h
   | some z=>rw [q] at h;cases h;exact .inl ⟨rfl,rfl⟩
  ·rw [List.getElem?_set_ne e] at h
   exact .inr ⟨fun a=>e a.symm,h⟩
theorem GOK.setF (ok:GOK G) {i:Nat} {s s':ShS} (d:G.fl[i]?=some s) (hs:∀ f,ZAu f s->ZAu f s'):GOK { G with fl:=G.fl.set i s' } :=
  ⟨ok.we,ok.fit,(by show (G.fl.set i s').length=_;rw [List.length_set];exact ok.lf),ok.lb,ok.lh,fun j f y b e=>by
    rcases Zqe e with ⟨c,a⟩ | ⟨c,a⟩
    ·subst c;subst a
     exact hs f (ok.sh j f s b d)
    ·exact ok.sh j f y b a,ok.keys,ok.en⟩
theorem GOK.setB (ok:GOK G) {i:Nat} {s:BkW}:GOK { G with br:=G.br.set i s } :=
  ⟨ok.we,ok.fit,ok.lf,(by show (G.br.set i s).length=_;rw [List.length_set];exact ok.lb),ok.lh,ok.sh,ok.keys,ok.en⟩
theorem GOK.setH (ok:GOK G) {i:Nat} {s:HtS}:GOK { G with ho:=G.ho.set i s } :=
  ⟨ok.we,ok.fit,ok.lf,ok.lb,(by show (G.ho.set i s).length=_;rw [List.length_set];exact ok.lh),ok.sh,ok.keys,ok.en⟩
theorem Za9.setF (a:Za9 h T L G) {i:Nat} {x:ShP × ShS} (l:L.fs[i]?=some x) {s':ShS} (t:ShR h' (hdT T) x.1 s') (u:Upd (fun j=>∃ d,d∈hdP x.1/\T j=some (.p d)) h h'):Za9 h' T { L with fs:=L.fs.set i (x.1,s')} { G with fl:=G.fl.set i s' }:=by
  obtain ⟨⟨H,I,J,v⟩,⟨_,_,w⟩,⟨_,t4⟩,f4,_⟩:=ZrJ a.nd;obtain ⟨z,_,_,n,_⟩:=ZEj a.nd;have k:Zdi (· ∈ hdP x.1) T h h':=Zdi.of a.hT u;have s:=Zdl.refl T;have hm:∀ b,b∈hdP x.1->b∈L.fs.flatMap (fun x=>hdP x.1):=fun b f=>List.mem_flatMap.2 ⟨x,Axo l,f⟩;have g:∀ b,b∈hdP x.1->b∈L.fs.flatMap (fun x=>hdP x.1)++(L.bs.flatMap (fun x=>[x.1])++L.hs.flatMap (fun x=>[x.1])):=fun b f=>Axx.2 (.inl (hm b f));have A:(L.fs.set i (x.1,s')).flatMap (fun x=>hdP x.1)=L.fs.flatMap (fun x=>hdP x.1):=ZqJ l rfl;have B:(L.fs.set i (x.1,s')).flatMap (fun x=>shL x.1)=L.fs.flatMap (fun x=>shL x.1):=Zn2 l rfl;obtain ⟨C,D⟩:=ZkB k s a.fl.r a.fl.o
  refine ⟨(k.head (fun c=>v _ (g _ c) rfl) a.eT).trans a.cells,a.eT,(k.head (fun c=>w _ (g _ c) rfl) a.sT).trans a.store,a.sT,XI k s a.rz,XI k s a.rs,
    ZgW k s a.tree fun c=>t4 _ (g _ c) rfl,ZkS k s a.ent a.fT fun c=>f4 _ (g _ c) rfl,a.fT,?_,a.lb,a.lh,⟨by rw [B];exact C,D,fun j y E=>?_⟩,a.br.keep k s fun b f c=>(n b (hm b c)).1 f,a.ho.keep k s u.size fun b f c=>(n b (hm b c)).2 f,?_,fun j F=>Aqq (a.hT j F) u.size⟩
  ·show (L.fs.set i (x.1,s')).map (·.2)=G.fl.set i s'
   rw [List.map_set,a.lf]
  ·rcases Zqe E with ⟨q,m⟩ | ⟨q,m⟩
   ·subst m;exact t
   ·exact Zna k s (a.fl.e j y m) fun b f c=>Zn3 z m l q f c
  ·show (L.eb::L.sb::L.tb::L.fm::((L.fs.set i (x.1,s')).flatMap (fun x=>hdP x.1)++_)).Nodup
   rw [A];exact a.nd
theorem Za9.setB (c:Za9 h T L G) {i:Nat} {x:Nat × BkW} (m:L.bs[i]?=some x) {B':{ B:BkS // WOK B.r }} {O':Nat->Prop} (v:BkR h' x.1 O' B'.1 B'.2) (u:Upd (inT T x.1) h h') (gr:Zsl (inT T x.1) O' h h'):Za9 h' (Zh3 T (.p x.1) (sz h) (sz h')) { L with bs:=L.bs.set i (x.1,B',x.2.2)} { G with br:=G.br.set i (B',x.2.2)}:=by
  obtain ⟨⟨J,K,M,w⟩,⟨_,_,z⟩,⟨_,t4⟩,f4,_⟩:=ZrJ c.nd;obtain ⟨_,A,_,C,n5⟩:=ZEj c.nd;have k:Zdi (· = x.1) T h h':=Zdi.of c.hT (u.mono fun j _ l=>⟨x.1,rfl,l⟩);have s:Zdl T (Zh3 T (.p x.1) (sz h) (sz h')):=ZgB c.hT;have hm:x.1∈L.bs.flatMap (fun x=>[x.1]):=List.mem_flatMap.2 ⟨x,Axo m,by simp⟩;have f:x.1∈L.fs.flatMap (fun x=>hdP x.1)++(L.bs.flatMap (fun x=>[x.1])++L.hs.flatMap (fun x=>[x.1])):=Axx.2 (.inr (Axx.2 (.inl hm)));have D:(L.bs.set i (x.1,B',x.2.2)).flatMap (fun x=>[x.1])=L.bs.flatMap (fun x=>[x.1]):=ZqJ m rfl;have E:(L.bs.set i (x.1,B',x.2.2)).flatMap (fun x=>bkL x.1 x.2.2)=L.bs.flatMap (fun x=>bkL x.1 x.2.2):=Zn2 m rfl;obtain ⟨F,H⟩:=ZkB k s c.br.r c.br.o
  refine ⟨(k.head (fun d=>w _ f d.symm) c.eT).trans c.cells,s.to c.eT,(k.head (fun d=>z _ f d.symm) c.sT).trans c.store,s.to c.sT,XI k s c.rz,XI k s c.rs,
    ZgW k s c.tree fun d=>t4 _ f d.symm,ZkS k s c.ent c.fT fun d=>f4 _ f d.symm,s.to c.fT,c.lf,?_,c.lh,c.fl.keep k s fun b q d=>(C b q).1 (d▸hm),⟨by rw [E];exact F,H,fun j y I=>?_⟩,c.ho.keep k s u.size fun b q d=>n5 x.1 hm (d▸q),?_,Zm9 (fun j l=>Aqq (c.hT j l) u.size) (Aqo _)⟩
  ·show (L.bs.set i (x.1,B',x.2.2)).map (·.2)=G.br.set i (B',x.2.2)
   rw [List.map_set,c.lb]
  ·rcases Zqe I with ⟨t,n⟩ | ⟨t,n⟩
   ·subst n
    refine BkR.mono v fun j l=>?_
    rcases gr.1 j l with g | g
    ·exact s.to g
    ·exact Zip g
   ·exact Zoe k s (c.br.e j y n) fun d=>Zn3 A n m t (a:=y.1) (by simp) (by rw [d];simp)
  ·show (L.eb::L.sb::L.tb::L.fm::(_++((L.bs.set i (x.1,B',x.2.2)).flatMap (fun x=>[x.1])++_))).Nodup
   rw [D];exact c.nd
theorem Za9.setH (c:Za9 h T L G) {i:Nat} {x:Nat × HtS} (v:L.hs[i]?=some x) {m:HtS} {B q:Nat->Option HTag} (C:∀ j,B j≠none->T j=some (.p x.1)) (D:HtR h' x.1 q m) (gr:GrT B q h h'):Za9 h' (Zh3 T (.p x.1) (sz h) (sz h')) { L with hs:=L.hs.set i (x.1,m)} { G with ho:=G.ho.set i m }:=by
  obtain ⟨⟨Q,R,U,F⟩,⟨_,_,H⟩,⟨_,t4⟩,f4,_⟩:=ZrJ c.nd;obtain ⟨_,_,I,J,n5⟩:=ZEj c.nd;have u:=gr.upd;have k:Zdi (· = x.1) T h h':=Zdi.of c.hT (u.mono fun j _ t=>⟨x.1,rfl,C j t⟩);have s:Zdl T (Zh3 T (.p x.1) (sz h) (sz h')):=ZgB c.hT;have hm:x.1∈L.hs.flatMap (fun x=>[x.1]):=List.mem_flatMap.2 ⟨x,Axo v,by simp⟩;have l:x.1∈L.fs.flatMap (fun x=>hdP x.1)++(L.bs.flatMap (fun x=>[x.1])++L.hs.flatMap (fun x=>[x.1])):=Axx.2 (.inr (Axx.2 (.inr hm)));have K:(L.hs.set i (x.1,m)).flatMap (fun x=>[x.1])=L.hs.flatMap (fun x=>[x.1]):=ZqJ v rfl;have M:(L.hs.set i (x.1,m)).flatMap (fun x=>[pN x.1])=L.hs.flatMap (fun x=>[pN x.1]):=Zn2 v rfl;obtain ⟨N,O⟩:=ZkB k s c.ho.r c.ho.o
  refine ⟨(k.head (fun d=>F _ l d.symm) c.eT).trans c.cells,s.to c.eT,(k.head (fun d=>H _ l d.symm) c.sT).trans c.store,s.to c.sT,XI k s c.rz,XI k s c.rs,
    ZgW k s c.tree fun d=>t4 _ l d.symm,ZkS k s c.ent c.fT fun d=>f4 _ l d.symm,s.to c.fT,c.lf,c.lb,?_,c.fl.keep k s fun b z d=>(J b z).2 (d▸hm),c.br.keep k s fun b z d=>n5 b z (d▸hm),⟨by rw [M];exact N,O,fun j y P=>?_⟩,?_,Zm9 (fun j t=>Aqq (c.hT j t) u.size) (Aqo _)⟩
  ·show (L.hs.set i (x.1,m)).map (·.2)=G.ho.set i m
   rw [List.map_set,c.lh]
  ·rcases Zqe P with ⟨E,w⟩ | ⟨E,w⟩
   ·subst w
    obtain ⟨V,S,W,kb,f,n,wt,sl,lb,A⟩:=D.ex;refine ⟨q,D,fun j t=>?_⟩
    rcases gr.new j t with g | g
    ·exact s.to (C j g)
    ·exact Zip ⟨g,A.lt j t⟩
   ·exact ZnT k s u.size (c.ho.e j y w) fun d=>Zn3 I w v E (a:=y.1) (by simp) (by rw [d];simp)
  ·show (L.eb::L.sb::L.tb::L.fm::(_++(_++(L.hs.set i (x.1,m)).flatMap (fun x=>[x.1])))).Nodup
   rw [K];exact c.nd
end
section
variable {α β:Type} {same:α->β->Bool} {was:List β}
theorem Zf6:∀ {now:List α} {us:List Bool},(Zfr same was now us).length=now.length
  | [],_=>rfl
  | r::rs,us=>by
    show (Zfr same was rs _).length+1=rs.length+1;rw [Zf6]
theorem ZmQ:∀ {now:List α} {us:List Bool},was.length=us.length->∀ {i:Nat} {a:Int},(Zfr same was now us)[i]?=some a->a = -1\/∃ k w b,a=((k:Nat):Int)/\was[k]?=some w/\now[i]?=some b/\same b w=true/\us[k]?=some false
  | [],_,_,i,a,h=>by cases h
  | r::rs,us,hl,i,a,h=>by
    have f:=ZsW (eq:=same r) (ws:=was) (us:=us) (i:=0) hl
    cases i with
    | zero =>
      have e:(pick (same r) was us 0).1=a:=Option.some.inj h
      rcases f with ⟨h1,_⟩ | ⟨k,w,h1,d,h3,l,_⟩
      ·exact .inl (e▸h1)
      ·exact .inr ⟨k,w,r,by rw [<- e,h1,Awb],d,rfl,h3,l⟩
    | succ i =>
      have h':(Zfr same was rs (pick (same r) was us 0).2)[i]?=some a:=by
        have:(Zfr same was (r::rs) us)=(pick (same r) was us 0).1::Zfr same was rs (pick (same r) was us 0).2:=rfl;rw [this] at h;simpa using h
      rcases ZmQ (by rw [Zla];exact hl) h' with g | ⟨k,w,b,m,n,o,p,c⟩
      ·exact .inl g
      ·refine .inr ⟨k,w,b,m,n,by simpa using o,p,?_⟩
       rcases f with ⟨_,d⟩ | ⟨j,t,_,_,_,_,s⟩
       ·rw [d] at c;exact c
       ·rw [s] at c
        by_cases e:j=k
        ·subst e
         rw [List.getElem?_set_self'] at c
         cases q:us[j]? with
         | none=>rw [q] at c;cases c
         | some u=>rw [q] at c;cases c
        ·rw [List.getElem?_set_ne e] at c;exact c
theorem Zll:∀ {now:List α} {us:List Bool},was.length=us.length->∀ {i j k:Nat},(Zfr same was now us)[i]?=some (k:Int)->(Zfr same was now us)[j]?=some (k:Int)->i=j
  | [],_,_,i,_,_,h,_=>by cases h
  | r::rs,us,hl,i,j,k,hi,c=>by
    have l:=ZsW (eq:=same r) (ws:=was) (us:=us) (i:=0) hl;have e:(Zfr same was (r::rs) us)=(pick (same r) was us 0).1::Zfr same was rs (pick (same r) was us 0).2:=rfl
    have no:∀ {m:Nat},(pick (same r) was us 0).1=(k:Int)->(Zfr same was rs (pick (same r) was us 0).2)[m]?=some (k:Int)->False:=fun {m} h1 n=>by
      rcases ZmQ (by rw [Zla];exact hl) n with g | ⟨d,w,b,p,s,t,v,a⟩
      ·omega
      ·have:d=k:=by omega
       subst this
       rcases l with ⟨h3,_⟩ | ⟨f,x,h3,_,_,_,o⟩
       ·omega
       ·have:f=d:=by omega
        subst this;rw [o,List.getElem?_set_self'] at a
        cases q:us[f]? with
        | none=>rw [q] at a;cases a
        | some u=>rw [q] at a;cases a
    rw [e] at hi c
    cases i with
    | zero =>
      cases j with
      | zero=>rfl
      | succ j=>exact (no (Option.some.inj hi) (by simpa using c)).elim
    | succ i =>
      cases j with
      | zero=>exact (no (Option.some.inj c) (by simpa using hi)).elim
      | succ j=>exact congrArg Nat.succ (Zll (us:=(pick (same r) was us 0).2) (by rw [Zla];exact hl) (by simpa using hi) (by simpa using c))
end
theorem Zlf {α:Type} {g:α->List Nat}:∀ {l:List α},(l.flatMap g).Nodup->∀ {x:α},(g x).Nodup->(∀ b,b∈g x->b∉l.flatMap g)->((l++[x]).flatMap g).Nodup:=fun {l} h {x} h1 c=>by
  rw [Ayl,List.nodup_append];refine ⟨h,by simpa using h1,fun a d b f e=>?_⟩;subst e;exact c a (by simpa using f) d
structure Sel {σ:Type} (g:σ->List Nat) (old:List σ) (K:List Int) (base top:Nat) (done:List σ):Prop where
  nd:(done.flatMap g).Nodup
  of:∀ (i:Nat) (x:σ),done[i]?=some x->(∃ k:Nat,K[i]?=some (k:Int)/\old[k]?=some x)\/∀ b,b∈g x->base<=b/\b<top
section
variable {σ:Type} {g:σ->List Nat} {old:List σ} {K:List Int} {base tp tp':Nat} {done:List σ}
theorem Sel.nil:Sel g old K base tp []:=⟨List.nodup_nil,fun i x h=>by cases h⟩
theorem Sel.top (s:Sel g old K base tp done) (h:tp<=tp'):Sel g old K base tp' done:=⟨s.nd,fun i x a=>(s.of i x a).imp id fun c b d=>by have:=c b d;omega⟩
theorem Sel.heads (s:Sel g old K base tp done) {b:Nat} (c:b∈done.flatMap g):b∈old.flatMap g\/(base<=b/\b<tp):=by
  obtain ⟨x,d,a⟩:=List.mem_flatMap.1 c;obtain ⟨i,hi⟩:=Ayi d
  rcases s.of i x hi with ⟨k,_,e⟩ | h
  ·exact .inl (List.mem_flatMap.2 ⟨x,Axo e,a⟩)
  ·exact .inr (h b a)
theorem ZqW {α:Type} {l:List α} {x y:α} {i:Nat} (h:(l++[x])[i]?=some y):l[i]?=some y\/(i=l.length/\y=x):=by
  by_cases hi:i<l.length
  ·rw [Awu hi] at h;exact .inl h
  ·rw [Awv (by omega)] at h
   by_cases e:i=l.length
   ·subst e
    rw [Nat.sub_self] at h;exact .inr ⟨rfl,(Option.some.inj h).symm⟩
   ·rw [Aqt (by simp;omega)] at h;cases h
theorem Sel.keep (s:Sel g old K base tp done) (ho:(old.flatMap g).Nodup) (o:∀ b,b∈old.flatMap g->b<base) (p:∀ {i j k:Nat},K[i]?=some (k:Int)->K[j]?=some (k:Int)->i=j) {k:Nat} {x:σ} (n:K[done.length]?=some (k:Int)) (d:old[k]?=some x):Sel g old K base tp (done++[x]):=by
  refine ⟨Zlf s.nd (Zuh ho d) fun b a f=>?_,fun i y l=>?_⟩
  ·obtain ⟨y,l,c⟩:=List.mem_flatMap.1 f
   obtain ⟨i,hi⟩:=Ayi l
   have q:i<done.length:=by
     rcases Aqd i done.length with h | h
     ·exact h
     ·rw [Aqt h] at hi;cases hi
   rcases s.of i y hi with ⟨r,h1,m⟩ | h
   ·by_cases e:k=r
    ·subst e
     have:=p n h1;omega
    ·exact Zn3 ho d m e a c
   ·have:=h b c
    have:=o b (List.mem_flatMap.2 ⟨x,Axo d,a⟩);omega
  ·rcases ZqW l with h | ⟨h1,m⟩
   ·exact s.of i y h
   ·subst h1;subst m
    exact .inl ⟨k,n,d⟩
theorem Sel.new (s:Sel g old K base tp done) (f:∀ b,b∈old.flatMap g->b<base) (h0:base<=tp) (h1:tp<=tp') {x:σ} (j:(g x).Nodup) (e:∀ b,b∈g x->tp<=b/\b<tp'):Sel g old K base tp' (done++[x]):=by
  refine ⟨Zlf s.nd j fun b a c=>?_,fun i y k=>?_⟩
  ·have:=e b a
   rcases s.heads c with h | h
   ·have:=f b h;omega
   ·omega
  ·rcases ZqW k with h | ⟨_,l⟩
   ·exact (s.top h1).of i y h
   ·subst l
    exact .inr fun b d=>by have:=e b d;omega
end
def ZkD {α σ:Type} (new:α->σ) (old:List σ) (k:Int) (a:α):σ:=if 0<=k then (old[k.toNat]?).getD (new a) else new a
def ZtV {α σ:Type} (new:α->σ) (old:List σ):List Int->List α->List σ
  | k::K,a::l=>ZkD new old k a::ZtV new old K l
  | _,_=>[]
theorem Zqg {α σ:Type} {new:α->σ} {old:List σ}:∀ {K:List Int} {l:List α},K.length=l.length->(ZtV new old K l).length=l.length
  | [],[],_=>rfl
  | k::K,a::l,h=>by
    show (ZtV new old K l).length+1=l.length+1;rw [Zqg (by simpa using h)]
theorem ZtU {α σ:Type} {new:α->σ} {old:List σ}:∀ {K:List Int} {l:List α} {i:Nat} {k:Int} {a:α},K[i]?=some k->l[i]?=some a->(ZtV new old K l)[i]?=some (ZkD new old k a)
  | [],_,_,_,_,h,_=>by cases h
  | _::_,[],_,_,_,_,h=>by cases h
  | k::K,a::l,0,_,_,h1,b=>by cases h1;cases b;rfl
  | k::K,a::l,i+1,c,a',h1,b=>by
    show (ZkD new old k a::ZtV new old K l)[i+1]?=_;rw [Axh];exact ZtU (by simpa using h1) (by simpa using b)
def zB:BkS:=⟨(em,0,0,0,0,1000000,0,()),1,0,0,0,⟨0,fun _=>z6⟩⟩
def bkZ (f:YS):B7:=Rw.ZBR f
open Classical in
noncomputable def BkW.new (f:YS) (id:Int):BkW:=if h:WOK (bkZ f) then (⟨⟨bkZ f,1,0,0,0,⟨0,fun _=>z6⟩⟩,h⟩,id) else (⟨zB,by unfold WOK zB;decide⟩,id)
noncomputable def ZlD (old:List BkW):List Int->List YS->Int->List BkW × Int
  | k::K,a::l,g=>if 0<=k then ((old[k.toNat]?).getD (BkW.new a g)::(ZlD old K l g).1,(ZlD old K l g).2) else (BkW.new a (IntKind.wrap .i64 (g+1))::(ZlD old K l (IntKind.wrap .i64 (g+1))).1,(ZlD old K l (IntKind.wrap .i64 (g+1))).2)
  | _,_,g=>([],g)
theorem Zw4 {old:List BkW} {k:Int} {K:List Int} {a:YS} {l:List YS} {g:Int} (h:0<=k):ZlD old (k::K) (a::l) g=((old[k.toNat]?).getD (BkW.new a g)::(ZlD old K l g).1,(ZlD old K l g).2):=if_pos h
theorem ZAv {old:List BkW} {k:Int} {K:List Int} {a:YS} {l:List YS} {g:Int} (h:¬ 0<=k):ZlD old (k::K) (a::l) g=(BkW.new a (IntKind.wrap .i64 (g+1))::(ZlD old K l (IntKind.wrap .i64 (g+1))).1,(ZlD old K l (IntKind.wrap .i64 (g+1))).2):=if_neg h
theorem Zqh {old:List BkW}:∀ {K:List Int} {l:List YS} {g:Int},K.length=l.length->(ZlD old K l g).1.length=l.length
  | [],[],_,_=>rfl
  | k::K,a::l,g,h=>by
    unfold ZlD;split
    ·show (ZlD old K l g).1.length+1=l.length+1
     rw [Zqh (by simpa using h)]
    ·show (ZlD old K l _).1.length+1=l.length+1
     rw [Zqh (by simpa using h)]
def ZmI (o:Option Node) (at_:Int):C6:=match o with
  | some n=>n.sum at_
  | none=>z6
def oE (o:Option Node) (at_:Int):Int:=match o with
  | some n=>ZW n.last at_
  | none=>1
def Ziu (o:Option Node) (at_:Int):Int:=match o with
  | some n=>n.past at_
  | none=>0
def ZGI (o:Option Node) (at_:Int):Int:=match o with
  | some n=>n.most at_
  | none=>0
def oFl (o:Option Node):Int:=match o with
  | some n=>n.fl
  | none=>0
section
variable {h:Zf} {p:Option Addr} {o:Option Node}
theorem ZgS (f:Zom h p o) {at_:Int} {K:C6->Int->Zf->Prop} (d:∀ h',Ext h h'->K (ZmI o at_) (oE o at_) h'):Xw p at_ K h:=by
  rcases f with ⟨ho,e⟩ | ⟨m,a,q,b,mb,n,ho,e,g⟩<;>subst ho<;>subst e
  ·unfold Xw Ze4
   refine ZJ fun h1 c1 i r=>Za (Zl rfl (Zbe c1 fun j c l s=>Za ?_));exact rI (Zb c rfl) (rI (Zb c rfl) (rI (Zb c rfl) (rI (Zb c rfl) (rI (Zb c rfl) (rI (Zb c rfl) (d j (i.then l fun k d=>by subst d;exact Aqo _)))))))
  ·exact ZyI g d
theorem ZtB (f:Zom h p o) {at_:Int} {K:Int->Int->Zf->Prop} (c:∀ e h',Ext h h'->K (Ziu o at_) e h'):ZaS p at_ K h:=by
  rcases f with ⟨ho,d⟩ | ⟨j,a,k,b,mb,n,ho,d,g⟩<;>subst ho<;>subst d
  ·unfold ZaS Zd1
   exact Za (Za (Zl rfl (Za (Za (c _ h (Ext.refl _))))))
  ·exact ZyF g fun h' i=>c _ h' i
theorem ZtC (f:Zom h p o) {at_:Int} {K:Int->Int->Zf->Prop} (c:∀ e h',Ext h h'->K (ZGI o at_) e h'):ZaT p at_ K h:=by
  rcases f with ⟨ho,d⟩ | ⟨j,a,k,b,mb,n,ho,d,g⟩<;>subst ho<;>subst d
  ·unfold ZaT Zd2
   exact Za (Za (Zl rfl (Za (Za (c _ h (Ext.refl _))))))
  ·exact Zv2 g fun h' i=>c _ h' i
theorem ZjX (e:Zom h p o) {K:Int->Zf->Prop} (c:K (oFl o) h):YL p K h:=by
  rcases e with ⟨ho,d⟩ | ⟨g,a,i,b,mb,n,ho,d,f⟩<;>subst ho<;>subst d
  ·exact ZjW c
  ·exact ZkY f c
end
theorem ZuI (o:Option Node) (at_:Int):∃ v:Int,∀ {h:Zf} {p:Option Addr} {K:Int->Int->Zf->Prop},Zom h p o->(∀ e h',Ext h h'->K v e h')->ZaU p at_ K h:=by
  by_cases q:oE o at_=0
  ·by_cases n:(ZmI o at_).2.2.1=0
   ·refine ⟨0,fun {h p K} d a=>?_⟩
    unfold ZaU Zb7;refine Za (Za (ZgS d fun h1 b=>ZJ fun r f g s=>Zbe f fun h3 c i z3=>Za ?_));have j:Ext h h3:=(b.trans g).then i fun k a=>by subst a;exact b.size
    rw [q];exact ⟨fun l=>absurd l (by decide),fun _=>rI (Zb c rfl) (Z5 (fun _=>Za (Za (a _ h3 j))) fun m=>absurd n m)⟩
   ·refine ⟨IntKind.wrap .i64 (Int.tdiv (ZmI o at_).2.2.2.2.1 (ZmI o at_).2.2.1),fun {h p K} d a=>?_⟩
    unfold ZaU Zb7;refine Za (Za (ZgS d fun h1 b=>ZJ fun r f g s=>Zbe f fun h3 c i z3=>Za ?_));have j:Ext h h3:=(b.trans g).then i fun k a=>by subst a;exact b.size
    rw [q];exact ⟨fun l=>absurd l (by decide),fun _=>rI (Zb c rfl) (Z5 (fun m=>absurd m n) fun m=>rI (Zb c rfl) (rI (Zb c rfl) ⟨m,Za (Za (a _ h3 j))⟩))⟩
  ·refine ⟨0,fun {h p K} d a=>?_⟩
   unfold ZaU Zb7;refine Za (Za (ZgS d fun h1 b=>ZJ fun r f g s=>Zbe f fun h3 c i z3=>Za ?_));have j:Ext h h3:=(b.trans g).then i fun k a=>by subst a;exact b.size
   exact ⟨fun _=>Za (Za (a _ h3 j)),fun l=>absurd l (by simpa using q)⟩
theorem Zsd {h:Zf} {p:Option Addr} {o:Option Node} (c:Zom h p o) {at_:Int} {K:Int->Int->Zf->Prop} (a:∀ e h',Ext h h'->K (ZmI o at_).2.2.2.2.2.1 e h'):Zc8 p at_ K h:=by
  unfold Zc8 Zfu;refine Za (Za (ZgS c fun h1 b=>ZJ fun l d f m=>Zbe d fun h3 g i z3=>Za ?_));have j:Ext h h3:=(b.trans f).then i fun k a=>by subst a;exact b.size
  exact rI (Zb g rfl) (Za (Za (a _ h3 j)))
end Go.Proofs.YthbfgkphlmlihaaGreat
namespace Go.Proofs.YthbfgkphlmlihaaGreat
open Go Go.Fw Go.Js
open Classical in
noncomputable def ZmE (a b:Zev):Bool:=decide (a=b)
theorem Zrm (a b:Zev):ZmE a b=true↔a=b:=by unfold ZmE;exact decide_eq_true_iff
abbrev kpF (G:GS) (r:RulesP):List Int:=Zfr Zw7 G.r.fl r.fl (List.replicate G.r.fl.length false)
abbrev kpB (G:GS) (r:RulesP):List Int:=Zfr ZDE G.r.br r.br (List.replicate G.r.br.length false)
noncomputable abbrev kpH (G:GS) (r:RulesP):List Int:=Zfr ZmE G.r.ho r.ho (List.replicate G.r.ho.length false)
noncomputable def GS.load (G:GS) (r:RulesP):GS :=
  { G with r:=r,fl:=ZtV ShS.new G.fl (kpF G r) r.fl,br:=(ZlD G.br (kpB G r) r.br G.g).1,g:=(ZlD G.br (kpB G r) r.br G.g).2,ho:=ZtV (fun f=>HtS.new f G.keys G.seed) G.ho (kpH G r) r.ho }
theorem ZAt (f:FlowP):ZAu f (ShS.new f):=by
  unfold ShS.new;refine ⟨fun q=>?_,fun q=>?_⟩
  ·show (if _ then _ else _)≠none
   rw [if_pos q];exact fun e=>by cases e
  ·show (if _ then _ else _)≠none
   rw [if_pos q];exact fun e=>by cases e
theorem GOK.load {G:GS} {r:RulesP} (ok:GOK G) (p:r.whereE.2.2=0) (q:Rw.RulesP.fit r):GOK (G.load r):=by
  refine ⟨p,q,Zqg Zf6,Zqh Zf6,Zqg Zf6,fun i f s hi hs=>?_,ok.keys,ok.en⟩;have a:r.fl[i]?=some f:=hi;have c:(ZtV ShS.new G.fl (kpF G r) r.fl)[i]?=some s:=hs
  have g:i<r.fl.length:=by
    rcases Aqd i r.fl.length with h | h
    ·exact h
    ·rw [Aqt h] at a;cases a
  have j:i<(kpF G r).length:=by rw [Zf6];exact g
  obtain ⟨k,o⟩:∃ k,(kpF G r)[i]?=some k:=⟨_,Axy j⟩;rw [ZtU o a] at c;have d:=Option.some.inj c
  rcases ZmQ (by simp) o with h | ⟨m,w,b,h1,l,h3,t,v⟩
  ·subst h
   rw [<- d];unfold ZkD;rw [if_neg (by decide)];exact ZAt f
  ·subst h1
   have e:b=f:=by rw [a] at h3;exact (Option.some.inj h3).symm
   subst e;have u:=(Zw6 b w).1 t;subst u
   have n:m<G.fl.length:=by
     rw [ok.lf]
     rcases Aqd m G.r.fl.length with h | h
     ·exact h
     ·rw [Aqt h] at l;cases l
   have hm:G.fl[m]?=some G.fl[m]:=Axy n;have:=ok.sh m b _ l hm;rw [<- d];unfold ZkD;rw [if_pos (by omega),Aqu,hm];exact this
def GS.new (keys seed:Int):GS:=⟨keys,seed,⟨[],[],[],[],[]⟩,[],[],[],0,Tree.zero,0,0,fun _=>none,0,1,0⟩
theorem GOK.new {keys seed:Int} (a:1<=keys/\keys<=4096):GOK (GS.new keys seed):=by
  have no:∀ {α:Type} {P:α->Prop} (f:α),f∈([]:List α)->P f:=fun f b=>by cases b
  exact ⟨rfl,⟨no,no,no,no⟩,rfl,rfl,rfl,fun i f s hi _=>(by cases hi),a,fun k e he=>(by cases he)⟩
end Go.Proofs.YthbfgkphlmlihaaGreat
namespace Go.Proofs.YthbfgkphlmlihaaGreat
open Go Go.Fw Go.Js
noncomputable section
abbrev PC:=Int × ByteArray × ByteArray × ByteArray × Bool × Int
def cl (c:PC) (s:Sl):C8:=(c.1,c.2.1,c.2.2.1,c.2.2.2.1,c.2.2.2.2.1,c.2.2.2.2.2,s,())
inductive Tk
  | hot (i:Nat) (v:ByteArray)
  | warm (i:Nat) (past sum:Int)
  | pace (i:Nat)
  | wp (i:Nat) (past rate:Int)
  | brk (i:Nat)
structure Lk where
  b:Bool
  tk:List Tk
  wt:Option Int
def wtV (wt:Int):Option Int->Int
  | none=>wt
  | some w=>Zih wt w
def Zfn (f:Int->Lk):List Int->List Tk × Int->Option Int × List Tk × Int
  | [],x=>(none,x)
  | i::l,x=>if (f i).b=true then (some i,x.1++(f i).tk,wtV x.2 (f i).wt) else Zfn f l (x.1++(f i).tk,wtV x.2 (f i).wt)
def glV (f:ZbC) (o:ByteArray):Bool:=Classical.choose (ZuH f o)
def gsV (r:S5) (n:Int) (w:N7):Bool:=Classical.choose (ZpQ r n w)
def ZNV (o:Option Node) (at_:Int):Int:=Classical.choose (ZuI o at_)
def hlV (H:HtS) (at_:Int) (v:ByteArray) (c:Int):Bool:=Classical.choose (Zq3 H at_ v c)
def wlV (w:Wm) (at_ past now n:Int):Bool:=Classical.choose (Zux w at_ past now n)
def wrV (w:Wm) (at_ past:Int):Int:=Classical.choose (Zuw w at_ past)
def plV (p:Pc) (at_ count:Int):Int × Bool × Int:=Classical.choose (ZuB p at_ count)
def paV (p:Pc) (at_ count a:Int):Int × Bool × Int:=Classical.choose (ZuC p at_ count a)
def Zpm (G:GS) (c:PC) (i:Int):Lk:=⟨match G.r.li[i.toNat]? with
  | some f=> !glV f c.2.2.2.1
  | none=>false,[],none⟩
def Zmr:K4:=(1,em,em,em,())
def ZGJ (G:GS) (c:PC):N7:=((ZmI (G.t.f Zmr) c.1).1,oFl (G.t.f Zmr),ZNV (G.t.f Zmr) c.1,G.ld,G.cp,ZGI (G.t.f Zmr) c.1,(ZmI (G.t.f Zmr) c.1).2.2.2.2.2.1,())
def Zxy (G:GS) (c:PC) (i:Int):Lk:=⟨match G.r.sy[i.toNat]? with
  | some f=> !gsV (Rw.Zp9 f) c.2.2.2.2.2 (ZGJ G c)
  | none=>false,[],none⟩
def ZnG (G:GS) (c:PC) (al:List ByteArray) (i:Int):Lk:=match G.r.ho[i.toNat]?,G.ho[i.toNat]? with
  | some f,some H=>(match al[f.index.toNat]? with
    | some v=>⟨!hlV H c.1 v c.2.2.2.2.2,[.hot i.toNat v],none⟩
    | none=>⟨false,[],none⟩)
  | _,_=>⟨false,[],none⟩
def Zs9 (l:P4):K4:=if Yp l.2.2.1 em=false then (5,em,l.1,l.2.2.1,()) else if Yp l.2.1 em=false then (3,l.2.1,l.1,em,()) else (4,em,l.1,em,())
def Zko (f:FlowP) (s:ShS) (o:Option Node) (c:PC) (i:Nat):Lk :=
  if f.shape=1 then (match s.2 with
    | some w=>⟨!wlV w c.1 (Ziu o c.1) (ZmI o c.1).1 c.2.2.2.2.2,[.warm i (Ziu o c.1) (ZmI o c.1).1],none⟩
    | none=>⟨false,[],none⟩)
  else if f.shape=2 then (match s.1 with
    | some p=>⟨!(plV p c.1 c.2.2.2.2.2).2.1,[.pace i],some (plV p c.1 c.2.2.2.2.2).1⟩
    | none=>⟨false,[],none⟩)
  else if f.shape=3 then (match s.1,s.2 with
    | some p,some w=>⟨!(paV p c.1 c.2.2.2.2.2 (Zih (wrV w c.1 (Ziu o c.1)) 1)).2.1,[.wp i (Ziu o c.1) (Zih (wrV w c.1 (Ziu o c.1)) 1)],some (paV p c.1 c.2.2.2.2.2 (Zih (wrV w c.1 (Ziu o c.1)) 1)).1⟩
    | _,_=>⟨false,[],none⟩)
  else ⟨!ZlY (Rw.ZaJ f) (ZmI o c.1).1 (oFl o) c.2.2.2.2.2,[],none⟩
def Zfl (G:GS) (c:PC) (gr:Bool) (i:Int):Lk:=match G.r.fl[i.toNat]?,G.fl[i.toNat]? with
  | some f,some s=>if f.clu=true/\(gr=true\/f.fb=false) then ⟨false,[],none⟩ else Zko f s (G.t.f (Zs9 (Zas (Rw.ZaJ f) (cl c nl)))) c i.toNat
  | _,_=>⟨false,[],none⟩
def ZnH (G:GS) (c:PC) (i:Int):Lk:=match G.br[i.toNat]? with
  | some B=>⟨!Zud B.1.1 c.1,[.brk i.toNat],none⟩
  | none=>⟨false,[],none⟩
def ZE4 (G:GS) (c:PC) (x:List Tk × Int):Option Int × List Tk × Int:=if c.2.2.2.2.1=true then Zfn (Zxy G c) (ofK G.r 4 c.2.1) x else (none,x)
def stg (G:GS) (c:PC) (al:List ByteArray) (gr:Bool):Nat->List Tk × Int->Option Int × List Tk × Int
  | 0,x=>Zfn (Zpm G c) (ofK G.r 5 c.2.1) x
  | 1,x=>ZE4 G c x
  | 2,x=>Zfn (ZnG G c al) (ofK G.r 3 c.2.1) x
  | 3,x=>Zfn (Zfl G c gr) (ZmJ G.r.fl (cl c nl)) x
  | _,x=>Zfn (ZnH G c) (ofK G.r 2 c.2.1) x
def Zlk (st:Nat->List Tk × Int->Option Int × List Tk × Int):Nat->Nat->List Tk × Int->Option (Int × Int) × List Tk × Int
  | 0,_,x=>(none,x)
  | n+1,j,x=>match (st j x).1 with
    | some i=>(some (((j+1:Nat):Int),i),(st j x).2)
    | none=>Zlk st n (j+1) (st j x).2
def ZnE (G:GS) (c:PC) (al:List ByteArray) (gr:Bool):Option (Int × Int) × List Tk × Int:=Zlk (stg G c al gr) 5 0 ([],0)
def HtS.take (H:HtS) (at_:Int) (v:ByteArray) (c:Int):HtS:=Classical.choose (Classical.choose_spec (Classical.choose_spec (ZuG H at_ v c)))
def Wm.take (w:Wm) (at_ past now n:Int):Wm:=Classical.choose (Classical.choose_spec (Classical.choose_spec (ZqX w at_ past now n)))
def Wm.fill (w:Wm) (at_ past:Int):Wm:=Classical.choose (Classical.choose_spec (Classical.choose_spec (ZmV w at_ past)))
def Pc.go (p:Pc) (at_ count:Int):Pc:=Classical.choose (ZBW p at_ count)
def Pc.at' (p:Pc) (at_ count a:Int):Pc:=Classical.choose (Classical.choose_spec (ZuC p at_ count a))
def Zfp (c:PC) (x:GS × List Int):Tk->GS × List Int
  | .hot i v=>match x.1.ho[i]? with
    | some H=>({ x.1 with ho:=x.1.ho.set i (H.take c.1 v c.2.2.2.2.2)},x.2)
    | none=>x
  | .warm i past sum=>match x.1.fl[i]? with
    | some (p,some w)=>({ x.1 with fl:=x.1.fl.set i (p,some (w.take c.1 past sum c.2.2.2.2.2))},x.2)
    | _=>x
  | .pace i=>match x.1.fl[i]? with
    | some (some p,w)=>({ x.1 with fl:=x.1.fl.set i (some (p.go c.1 c.2.2.2.2.2),w)},x.2)
    | _=>x
  | .wp i past a=>match x.1.fl[i]? with
    | some (some p,some w)=>({ x.1 with fl:=x.1.fl.set i (some (p.at' c.1 c.2.2.2.2.2 a),some (w.fill c.1 past))},x.2)
    | _=>x
  | .brk i=>match x.1.br[i]? with
    | some B=>({ x.1 with br:=x.1.br.set i (⟨B.1.1.enter c.1,by have:=B.1.2;unfold BkS.enter;split<;>exact this⟩,B.2)},if Zps B.1.1 c.1=true then x.2++[B.2] else x.2)
    | none=>x
end
def ZkW (al:List ByteArray):Bool:=al.any fun s=>decide (64<s.size)
def Zhu (G:GS) (c:PC) (al:List ByteArray):Int :=
  if ZiA (cl c nl)≠0 then ZiA (cl c nl) else if ¬ (0<=c.1/\c.1<=1152921504606846976) then 2 else if ¬ (1<=c.2.2.2.2.2/\c.2.2.2.2.2<=1099511627776) then 2 else if 8<al.length then 5 else if ZkW al=true then 5
  else if c.1<G.la then 7 else if 4096<=G.op then 3 else G.t.touchE (cl c nl)
def GS.mid (G:GS) (c:PC):GS:={ G with t:=G.t.touched (cl c nl),la:=c.1 }
def GS.blocked (G:GS) (c:PC):GS:={ G with t:=G.t.blocked (cl c nl)}
def GS.pass (G:GS) (c:PC) (pr:List Int):GS:={ G with t:=G.t.passed (cl c nl),nx:=IntKind.wrap .i64 (G.nx+1),op:=IntKind.wrap .i64 (G.op+1),en:=upd G.en G.nx (some ⟨cl c nl,false,pr⟩)}
abbrev V4:=Int × Int × Int × Unit
noncomputable def Zjt (c:PC) (x:GS × List Int) (l:List Tk):GS × List Int:=l.foldl (Zfp c) x
noncomputable def GS.enter (G:GS) (c:PC) (al:List ByteArray) (gr:Bool):(Int × V4 × Int) × GS :=
  if Zhu G c al≠0 then ((0,(0,0,0,()),Zhu G c al),G) else
  match (ZnE (G.mid c) c al gr).1 with
  | some (k,i)=>((0,(k,i,0,()),0),(G.mid c).blocked c)
  | none=>(((Zjt c (G.mid c,[]) (ZnE (G.mid c) c al gr).2.1).1.nx,(0,0,(ZnE (G.mid c) c al gr).2.2,()),0),(Zjt c (G.mid c,[]) (ZnE (G.mid c) c al gr).2.1).1.pass c (Zjt c (G.mid c,[]) (ZnE (G.mid c) c al gr).2.1).2)
noncomputable def Zmw (at_ rt:Int) (failed:Bool) (pr:List Int) (G:GS) (i:Int):GS:=match G.br[i.toNat]? with
  | some B=>{ G with br:=G.br.set i.toNat (⟨B.1.1.done B.1.2 at_ rt failed (decide (B.2∈pr)),by rw [Zuk];exact B.1.2⟩,B.2)}
  | none=>G
def ZBQ (c:C8) (at_:Int):C8:=(at_,c.2.1,c.2.2.1,c.2.2.2.1,c.2.2.2.2.1,c.2.2.2.2.2.1,nl,())
def zC:C8:=(0,em,em,em,false,0,nl,())
def GS.over (G:GS) (number at_:Int) (failed:Bool) (e:Ent):GS:={ G with la:=at_,en:=upd G.en number (some ⟨zC,true,[]⟩),op:=IntKind.wrap .i64 (G.op - 1),t:=G.t.dones (ZBQ e.c at_) (IntKind.wrap .i64 (at_ - e.c.1)) failed }
noncomputable def GS.exit (G:GS) (number at_:Int) (failed:Bool):Int × GS:=match G.en number with
  | none=>(40,G)
  | some e=>if e.ov=true then (41,G) else if at_<0 then (2,G) else if at_>1152921504606846976 then (2,G) else if at_<G.la then (7,G) else
    (0,(ofK G.r 2 e.c.2.1).foldl (Zmw at_ (IntKind.wrap .i64 (at_ - e.c.1)) failed e.pr) (G.over number at_ failed e))
def GS.sample (G:GS) (l c:Int):Int × GS:=if l<0\/l>1099511627776\/c<0\/c>1099511627776 then (2,G) else (0,{ G with ld:=l,cp:=c })
theorem GOK.mid {G:GS} {c:PC} (ok:GOK G):GOK (G.mid c):=⟨ok.we,ok.fit,ok.lf,ok.lb,ok.lh,ok.sh,ok.keys,ok.en⟩
theorem GOK.blocked {G:GS} {c:PC} (ok:GOK G):GOK (G.blocked c):=⟨ok.we,ok.fit,ok.lf,ok.lb,ok.lh,ok.sh,ok.keys,ok.en⟩
theorem GOK.en' {G:GS} (ok:GOK G) {k:Int} {e:Ent} (he:Zhs e.c):∀ j a,upd G.en k (some e) j=some a->Zhs a.c:=fun j a h=>by
  by_cases q:j=k
  ·subst q;rw [ZdR] at h;cases h;exact he
  ·rw [Zh5 G.en _ q] at h;exact ok.en j a h
theorem GOK.pass {G:GS} {c:PC} {pr:List Int} (ok:GOK G) (hz:Zhs (cl c nl)):GOK (G.pass c pr):=⟨ok.we,ok.fit,ok.lf,ok.lb,ok.lh,ok.sh,ok.keys,ok.en' hz⟩
theorem GOK.run1 {c:PC} {x:GS × List Int} (ok:GOK x.1) (tk:Tk):GOK (Zfp c x tk).1:=by
  unfold Zfp;have f1:∀ {p:Option Pc} {w w':Wm} (f:FlowP),ZAu f (p,some w)->ZAu f (p,some w'):=fun f h=>⟨h.1,fun _ e=>by cases e⟩;have f2:∀ {p d:Pc} {w:Option Wm} (f:FlowP),ZAu f (some p,w)->ZAu f (some d,w):=fun f h=>⟨fun _ e=>(by cases e),h.2⟩
  cases tk with
  | hot i v=>dsimp only;split;exact ok.setH;exact ok
  | warm i past sum =>
    dsimp only;split
    ·rename_i a;exact ok.setF a f1
    ·exact ok
  | pace i =>
    dsimp only;split
    ·rename_i a;exact ok.setF a f2
    ·exact ok
  | wp i past b =>
    dsimp only;split
    ·rename_i a;exact ok.setF a fun f h=>f1 f (f2 f h)
    ·exact ok
  | brk i=>dsimp only;split;exact ok.setB;exact ok
theorem GOK.runs {c:PC}:∀ {l:List Tk} {x:GS × List Int},GOK x.1->GOK (Zjt c x l).1
  | [],_,ok=>ok
  | t::l,x,ok=>GOK.runs (l:=l) (ok.run1 t)
theorem GOK.enter {G:GS} {c:PC} {al:List ByteArray} {gr:Bool} (ok:GOK G) (hz:Zhs (cl c nl)):GOK (G.enter c al gr).2:=by
  unfold GS.enter;split
  ·exact ok
  ·split
   ·exact ok.mid.blocked
   ·exact (GOK.runs (x:=(G.mid c,[])) ok.mid).pass hz
theorem GOK.done1 {at_ rt:Int} {failed:Bool} {pr:List Int} {G:GS} (ok:GOK G) (i:Int):GOK (Zmw at_ rt failed pr G i):=by
  unfold Zmw;split
  ·exact ok.setB
  ·exact ok
theorem GOK.dones {at_ rt:Int} {failed:Bool} {pr:List Int}:∀ {l:List Int} {G:GS},GOK G->GOK (l.foldl (Zmw at_ rt failed pr) G)
  | [],_,ok=>ok
  | i::l,G,ok=>GOK.dones (l:=l) (ok.done1 i)
theorem GOK.over {G:GS} {number at_:Int} {failed:Bool} {e:Ent} (ok:GOK G):GOK (G.over number at_ failed e):=⟨ok.we,ok.fit,ok.lf,ok.lb,ok.lh,ok.sh,ok.keys,ok.en' ⟨by decide,by decide,by decide⟩⟩
theorem GOK.exit {G:GS} {number at_:Int} {failed:Bool} (ok:GOK G):GOK (G.exit number at_ failed).2:=by
  unfold GS.exit;split
  ·exact ok
  ·split
   ·exact ok
   ·split
    ·exact ok
    ·split
     ·exact ok
     ·split
      ·exact ok
      ·exact GOK.dones ok.over
theorem GOK.sample {G:GS} {l c:Int} (ok:GOK G):GOK (G.sample l c).2:=by
  unfold GS.sample;split
  ·exact ok
  ·exact ⟨ok.we,ok.fit,ok.lf,ok.lb,ok.lh,ok.sh,ok.keys,ok.en⟩
structure GrG (T T':TgM) (h h':Zf):Prop where
  u:Upd (fun j=>T j≠none) h h'
  s:Zdl T T'
  n:∀ j,T' j≠none->T j≠none\/sz h<=j
section
variable {T T' T'':TgM} {h h' h'':Zf} {L:Lay} {G:GS}
theorem GrG.refl (T:TgM) (h:Zf):GrG T T h h:=⟨Upd.refl _ _,Zdl.refl T,fun _ a=> .inl a⟩
theorem GrG.trans (a:GrG T T' h h') (b:GrG T' T'' h' h'') (hT:∀ j,T j≠none->j<sz h):GrG T T'' h h'':=by
  refine ⟨⟨Aqp a.u.size b.u.size,fun k c d=>?_⟩,a.s.trans b.s,fun j e=>?_⟩
  ·refine (b.u.old k (Aqq c a.u.size) fun f=>?_).trans (a.u.old k c d)
   rcases a.n k f with g | g
   ·exact d g
   ·have:k<sz h:=c
    omega
  ·rcases b.n j e with g | g
   ·exact a.n j g
   ·exact .inr (Aqp a.u.size g)
theorem GrG.ext (e:Ext h h'):GrG T T h h':=⟨e.upd _,Zdl.refl T,fun _ a=> .inl a⟩
theorem GrG.then (a:GrG T T' h h') (e:Ext h' h''):GrG T T' h h'':=⟨a.u.trans (e.upd _),a.s,a.n⟩
theorem GrG.pre (e:Ext h h') (a:GrG T T' h' h''):GrG T T' h h'':=⟨(e.upd _).trans a.u,a.s,fun j b=>(a.n j b).imp id fun g=>Aqp e.size g⟩
theorem GrG.new {S:Nat->Prop} (a:GrG T T' h h') (u:Upd S h' h'') (c:∀ j,S j->sz h<=j):GrG T T' h h'':=⟨⟨Aqp a.u.size u.size,fun k b d=>(u.old k (Aqq b a.u.size) fun e=>by have:=c k e;have:k<sz h:=b;omega).trans (a.u.old k b d)⟩,a.s,a.n⟩
theorem GrG.one {b:Nat} (c:T b≠none) (u:Upd (· = b) h h'):GrG T T h h':=⟨u.mono fun j _ a=>by have:j=b:=a;rw [this];exact c,Zdl.refl T,fun _ a=> .inl a⟩
theorem GrG.tag {t:Tg} {S:Nat->Prop} (hT:∀ j,T j≠none->j<sz h) (u:Upd S h h') (b:∀ j,S j->T j≠none) {lo hi:Nat} (hl:sz h<=lo):GrG T (Zh3 T t lo hi) h h' :=
  ⟨u.mono fun j _ a=>b j a,ZgB fun j a=>Aqq (hT j a) hl,fun j a=>by
    unfold Zh3 at a;split at a
    ·exact .inr (by omega)
    ·exact .inl a⟩
theorem GrG.old (a:GrG T T' h h') {j:Nat} (b:j<sz h) (c:T j=none):obj h' j=obj h j:=a.u.old j b fun d=>d c
theorem Y9 {j:Nat} {t:Tg} (h:T j=some t):T j≠none:=by rw [h];exact fun e=>by cases e
theorem GrG.other {U:TgM} {M:Lay} {F:GS} (a:GrG T T' h h') (b:Za9 h U M F) (hd:∀ j,T j≠none->U j=none):Za9 h' U M F/\∀ j,T' j≠none->U j=none:=by
  refine ⟨b.frame a.u hd,fun j c=>?_⟩
  rcases a.n j c with g | g
  ·exact hd j g
  ·cases q:U j with
   | none=>rfl
   | some t=>have:=ZbA b.hT q;omega
end
theorem ZDx {α:Type} {a b:List α} {i:Nat} {x:α} (h:a.take i=b.take i) (c:a[i]?=some x) (d:b[i]?=some x):a.take (i+1)=b.take (i+1):=by
  rw [Aym,Aym,h,c,d]
theorem ZxL {s t:Sl} {l m:List (BL × Int)} {h:Zf} (hs:Row h s 2 (Rw.Zhr l)) (k:Row h t 2 (Rw.Zhr m)) (hl:l.length<=1000000) {K:Bool->Zf->Prop} (d:(l=m->K true h)/\(l≠m->K false h)):YY s t K h:=by
  unfold YY Xy;have la:=hs.len;have lb:=k.len;rw [Rw.ZnN] at la lb;refine Rw.ZqE (fun n=>d.2 fun e=>n (by rw [e] at la;omega)) fun q=>?_;have hlen:l.length=m.length:=by omega
  refine Zbd (fun (p:Int × Unit) o=>o=h/\∃ i:Nat,p.1=(i:Int)/\i<=l.length/\l.take i=m.take i) (fun p _=>((l.length:Int) - p.1).toNat) ⟨rfl,0,rfl,Ayg _,rfl⟩ ?_;rintro ⟨D,u⟩ o ⟨f,i,hi,v,g⟩ Q w;subst f;dsimp only at hi ⊢;subst hi;refine Zn (fun x=>Za ?_) fun y=>?_
  ·have a:i<l.length:=by omega
   obtain ⟨p,c⟩:∃ p,l[i]?=some p:=⟨_,Axy a⟩;obtain ⟨q,b⟩:∃ q,m[i]?=some q:=⟨_,Axy (by omega)⟩;refine Rw.ZqD hs c rfl (Rw.ZqD k b rfl ?_);rw [Rw.ZgZ]
   by_cases e:p=q
   ·subst e
    refine Zi (by simp) ?_;rw [wrS a (by omega)];exact w _ _ ⟨rfl,i+1,rfl,a,ZDx g c b⟩ (by show ((l.length:Int) - ((i+1:Nat):Int)).toNat<((l.length:Int) - ((i:Nat):Int)).toNat;omega)
   ·refine Zl ?_ (d.2 fun j=>e (by rw [j,b] at c;exact (Option.some.inj c).symm))
    obtain ⟨z,A⟩:=p;obtain ⟨B,C⟩:=q
    by_cases r:z=B
    ·subst r
     have j:¬ A=C:=fun f=>e (by rw [f]);simp [j]
    ·simp [r]
  ·have:i=l.length:=by omega
   subst this;rw [Awd (Aqo _),Awd (by omega)] at g;exact d.1 g
theorem Zt1 {α β γ:Type} {f:α->β} {eq:β->Bool}:∀ {ws:List α} {us:List Bool} {i:Nat},pick (fun a=>eq (f a)) ws us i=pick eq (ws.map f) us i
  | [],us,i=>by cases us<;>rfl
  | w::ws,[],i=>rfl
  | w::ws,u::us,i=>by
    show (if u=false/\eq (f w)=true then _ else _)=(if u=false/\eq (f w)=true then _ else _);rw [Zt1 (γ:=γ) (ws:=ws) (us:=us) (i:=i+1)]
theorem ZrG {α β:Type} {f:α->β} {same:β->β->Bool} {c:List α}:∀ {now:List α} {us:List Bool},Zfr (fun a b=>same (f a) (f b)) c now us=Zfr same (c.map f) (now.map f) us
  | [],_=>rfl
  | r::rs,us=>by
    show (pick (fun b=>same (f r) (f b)) c us 0).1::Zfr (fun a b=>same (f a) (f b)) c rs (pick (fun b=>same (f r) (f b)) c us 0).2=(pick (same (f r)) (c.map f) us 0).1::Zfr same (c.map f) (rs.map f) (pick (same (f r)) (c.map f) us 0).2;rw [Zt1 (γ:=β),ZrG]
theorem Zw5 {a b:Zev} {x y:Sl} {h:Zf} (r:Row h x 2 (Rw.Zhr a.items)) (t:Row h y 2 (Rw.Zhr b.items)) (hl:a.items.length<=1000000) {K:Bool->Zf->Prop} (o:∀ h',Ext h h'->K (ZmE a b) h'):ZeD (Rw.ZE6 x a) (Rw.ZE6 y b) K h:=by
  have tr:a=b->ZmE a b=true:=fun e=>(Zrm a b).2 e;unfold ZeD Zhb;refine ZJ fun h1 c1 u v=>ZJ fun g f p w=>?_;have c:=Zj c1 p;have d:=u.trans p
  have no:a≠b->K false g:=fun e=>by
    have:=o g d
    cases q:ZmE a b with
    | false=>rwa [q] at this
    | true=>exact absurd ((Zrm a b).1 q) e
  have yes:a=b->K true g:=fun e=>by
    have:=o g d;rwa [tr e] at this
  refine rS (n:=Zx a.res) (Zb c rfl) (rS (n:=Zx b.res) (Zb f rfl) ?_);rw [Rw.ZgZ];refine Zn (fun i=>?_) fun i=>no fun e=>i (by rw [e]);refine rI (n:=a.index) (Zb c rfl) (rI (n:=b.index) (Zb f rfl) (Z5 (fun j=>?_) fun j=>no fun e=>j (by rw [e])));refine rI (n:=a.cnt) (Zb c rfl) (rI (n:=b.cnt) (Zb f rfl) (Z5 (fun k=>?_) fun k=>no fun e=>k (by rw [e])));refine rI (n:=a.secs) (Zb c rfl) (rI (n:=b.secs) (Zb f rfl) (Z5 (fun l=>?_) fun l=>no fun e=>l (by rw [e])));refine rL (s:=x) (Zb c rfl) (rL (s:=y) (Zb f rfl) (ZxL (r.ext d) (t.ext d) hl ⟨fun m=>Zc (yes ?_),fun m=>Zc (no fun e=>m (by rw [e]))⟩));obtain ⟨z,A,a3,a4,a5⟩:=a;obtain ⟨b1,b2,B,b4,C⟩:=b;simp only at i j k l m;rw [i,j,k,l,m]
theorem Zvc {a b:Zev} {x y:Sl} {h:Zf} (ha:Row h x 2 (Rw.Zhr a.items)) (hb:Row h y 2 (Rw.Zhr b.items)) (hl:a.items.length<=1000000) {K:Bool->Zf->Prop} (n:∀ h',Ext h h'->K (ZmE a b) h'):XG (Rw.ZE6 x a) (Rw.ZE6 y b) K h:=by
  unfold XG Zcl;refine ZJ fun h1 c1 e1 z1=>ZJ fun h2 c2 U z2=>?_;have d:=Zj c1 U;refine rS (Zb d rfl) (rI (Zb d rfl) (rI (Zb d rfl) (rI (Zb d rfl) (rL (s:=x) (Zb d rfl) (ZJ fun h3 c3 V z3=>?_)))));have f:=Zj c2 V;refine rS (Zb f rfl) (rI (Zb f rfl) (rI (Zb f rfl) (rI (Zb f rfl) (rL (s:=y) (Zb f rfl) (ZJ fun h4 c4 W z4=>?_)))));have B:=Zj c3 W;unfold ZjA ZjJ;refine ZJ fun h5 c5 C z5=>ZJ fun h6 o w z6=>?_;have g:=Zj c5 w;have D:=(V.trans W).trans (C.trans w);have l:=(e1.trans U).trans D;refine rL (s:=nl) (Zb g rfl) (rL (s:=nl) (Zb o rfl) ?_);unfold Xx Xz;refine Zi rfl (Zbd (fun p F=>p=(0,())/\F=h6) (fun _ _=>0) ⟨rfl,rfl⟩ ?_);rintro _ F ⟨rfl,G⟩ Q _;subst G;refine Zi rfl (Zl rfl (rL (s:=nl) (Zb g rfl) (rL (s:=nl) (Zb o rfl) ?_)));unfold Xj Xk;refine Zi rfl (Zbd (fun p H=>p=(0,())/\H=F) (fun _ _=>0) ⟨rfl,rfl⟩ ?_);rintro _ H ⟨rfl,I⟩ Q _;subst I;refine Zi rfl (Zl rfl (rL (s:=nl) (Zb g rfl) (rL (s:=nl) (Zb o rfl) ?_)));unfold Xb Xc;refine Zi rfl (Zbd (fun p z=>p=(0,())/\z=H) (fun _ _=>0) ⟨rfl,rfl⟩ ?_);rintro _ z ⟨rfl,J⟩ Q _;subst J;have fin:∀ (v:Bool) (r:Zf),v=ZmE a b->Ext h r->K v r:=fun v r e L=>by rw [e];exact n r L
  refine Zi rfl (Zl rfl (rL (s:=⟨some ⟨sz h2,0,none⟩,1,1⟩) (Zb g rfl) (rL (s:=⟨some ⟨sz h3,0,none⟩,1,1⟩) (Zb o rfl) ?_)));unfold ZL ZM;have d3:=Zj B (C.trans w);have d4:=Zj c4 (C.trans w);refine Zi rfl (Zbd (fun (p:Int × Unit) hz=>(p.1=0/\hz=z)\/(p.1=1/\Ext z hz/\ZmE a b=true)) (fun p _=>(1 - p.1).toNat) (.inl ⟨rfl,rfl⟩) ?_);rintro ⟨i,u⟩ hz (⟨m,M⟩ | ⟨m,N,hs⟩) Q hQ
  ·dsimp only at m ⊢
   subst m;subst M;have ix:∀ {A:Nat} {P:Nat->Nat->Prop},P A 0->YR (some ⟨A,0,none⟩) 1 0 5 P:=fun {A P} m=>⟨A,0,rfl,by decide,by decide,m⟩;refine Zl rfl (ix (rS (Zb d3 rfl) (rI (Zb d3 rfl) (rI (Zb d3 rfl) (rI (Zb d3 rfl) (rL (s:=x) (Zb d3 rfl) (ZJ fun h7 c7 e7 z7=>Za (Zbe c7 fun X c8 u8 z8=>ix ?_))))))));have Y:Ext hz X:=e7.then u8 fun k n=>by subst n;exact Aqo _
   have d48:=Zj d4 Y;refine rS (Zb d48 rfl) (rI (Zb d48 rfl) (rI (Zb d48 rfl) (rI (Zb d48 rfl) (rL (s:=y) (Zb d48 rfl) (ZJ fun r c9 L z9=>Zbe c9 fun O j R aw=>?_)))));have t:Ext X O:=L.then R fun k n=>by subst n;exact Aqo _
   have c:=Zj c8 t;refine rS (Zb c rfl) (rI (Zb c rfl) (rI (Zb c rfl) (rI (Zb c rfl) (rL (s:=x) (Zb c rfl) (rS (Zb j rfl) (rI (Zb j rfl) (rI (Zb j rfl) (rI (Zb j rfl) (rL (s:=y) (Zb j rfl) (?_))))))))));have E:=Y.trans t;refine Zw5 (ha.ext (l.trans E)) (hb.ext (l.trans E)) hl fun ax S=>?_;have Z:=E.trans S
   cases q:ZmE a b with
   | true=>exact Zi rfl (hQ _ _ (.inr ⟨rfl,Z,q⟩) (show (1 - IntKind.wrap .i64 (0+1)).toNat<(1 - (0:Int)).toNat by decide))
   | false=>exact Zl rfl (Zi rfl (Zc (fin _ _ q.symm (l.trans Z))))
  ·dsimp only at m ⊢
   subst m;refine Zi rfl (Zl rfl (rL (s:=nl) (Zb (Zj g N) rfl) (rL (s:=nl) (Zb (Zj o N) rfl) ?_)));unfold Zv Zw;refine Zi rfl (Zbd (fun p hw=>p=(0,())/\hw=hz) (fun _ _=>0) ⟨rfl,rfl⟩ ?_);rintro _ hw ⟨rfl,T⟩ Q _;subst T;exact Zi rfl (Zc (Zc (fin _ _ hs.symm (l.trans N))))
theorem ZD7 {h:Zf} {s w:Sl} {A B:List (Sl × Zev)} (hs:Row h s 5 (A.flatMap Rw.Zln)) (hw:Row h w 5 (B.flatMap Rw.Zln)) (hi:∀ p,p∈A\/p∈B->Row h p.1 2 (Rw.Zhr p.2.items)/\p.2.items.length<=1000000) (F:A.length<=256) (G:B.length<=256) {K:Sl->Zf->Prop} (q:∀ h' t,Ext h h'->Own h' (sz h) t 1 ((Zfr ZmE (B.map (·.2)) (A.map (·.2)) (List.replicate B.length false)).map iv)->K t h'):Yl s w K h:=by
  unfold Yl YQ;rw [<- ZrG] at q
  refine ZxK (g:=Rw.Zln) (n:=5) (T:=134) (same:=fun a b=>ZmE a.2 b.2) (fun _=>rfl) (by decide) hs hw F G
    (ld1:=fun b o h3 Q=>ldS h3 b o fun t0=>ldI h3 b (o+1) .i64 fun t1=>ldI h3 b (o+2) .i64 fun t2=>ldI h3 b (o+3) .i64 fun t3=>ldL h3 b (o+4) fun t4=>newC h3 [Value.string (ByteArray.mk #[]),iv 0,iv 0,iv 0,Value.slice none 0 0] 134 fun j l=>sts l j 0 [Value.string t0,iv t1,iv t2,iv t3,Value.slice t4.ptr t4.len t4.cap] fun m=>Q j m)
    (ld2:=fun b o h3 u Q=>ldS h3 b o fun t0=>ldI h3 b (o+1) .i64 fun t1=>ldI h3 b (o+2) .i64 fun t2=>ldI h3 b (o+3) .i64 fun t3=>ldL h3 b (o+4) fun t4=>newC h3 [Value.string (ByteArray.mk #[]),iv 0,iv 0,iv 0,Value.slice none 0 0] 134 fun j l=>Zd u fun i=>sts l j 0 [Value.string t0,iv t1,iv t2,iv t3,Value.slice t4.ptr t4.len t4.cap] fun m=>Q j i m)
    (cmp:=fun c d f Q=>ldS f c 0 fun H=>ldI f c (0+1) .i64 fun I=>ldI f c (0+2) .i64 fun J=>ldI f c (0+3) .i64 fun L=>ldL f c (0+4) fun M=>ldS f d 0 fun N=>ldI f d (0+1) .i64 fun O=>ldI f d (0+2) .i64 fun P=>ldI f d (0+3) .i64 fun R=>ldL f d (0+4) fun S=>XG (H,I,J,L,M,()) (N,O,P,R,S,()) Q f) ?_ ?_ ?_ q
  ·intro a U o f Q e r
   exact rS (e 0 _ rfl) (rI (e 1 _ rfl) (rI (e 2 _ rfl) (rI (e 3 _ rfl) (rL (s:=a.1) (e 4 _ rfl) (ZJ fun h1 c1 v V=>Zbe c1 fun z C D W=>r z _ (v.then D fun k q=>by subst q;exact Aqo _) (Aqo _) C)))))
  ·intro a U o f i Q e r
   exact rS (e 0 _ rfl) (rI (e 1 _ rfl) (rI (e 2 _ rfl) (rI (e 3 _ rfl) (rL (s:=a.1) (e 4 _ rfl) (ZJ fun h1 c1 v V=>Za (Zbe c1 fun z C D W=>r z _ (v.then D fun k q=>by subst q;exact Aqo _) C))))))
  ·intro a b c d f Q E X he e hd r
   refine rS (Zb e rfl) (rI (Zb e rfl) (rI (Zb e rfl) (rI (Zb e rfl) (rL (s:=a.1) (Zb e rfl) (rS (Zb hd rfl) (rI (Zb hd rfl) (rI (Zb hd rfl) (rI (Zb hd rfl) (rL (s:=b.1) (Zb hd rfl) (Zvc (x:=a.1) (y:=b.1) ((hi a (.inl E)).1.ext he) ((hi b (.inr X)).1.ext he) (hi a (.inl E)).2 r))))))))))
theorem ZnQ {KL:List Int} {kt:Sl} {body:Int->Int->Zf->(Zf->Prop)->Prop} {K:Zf->Prop} {h:Zf} (Inv:Nat->Zf->Prop) (hl:KL.length<=1000000)
    (e:∀ m hh,Inv m hh->Row hh kt 1 (KL.map iv)) (h0:Inv 0 h) (hs:∀ (m:Nat) k hh (Q:Zf->Prop),KL[m]?=some k->Inv m hh->(∀ h',Inv (m+1) h'->Q h')->body m k hh Q) (he:∀ hh,Inv KL.length hh->K hh) :
    Yj (σ:=Int × Unit) (fun J s hh=>(fun (i:Int)=>Zm (decide (i<(kt.len:Int))) (YR kt.ptr kt.len i 1 fun b o=>ldI hh b o .i64 fun t=>body i t hh (fun h'=>J (IntKind.wrap .i64 (i+1),()) h')) (K hh)) s.1) (0,()) h:=by
  refine Zbd (fun (p:Int × Unit) hh=>∃ m:Nat,p=((m:Int),())/\m<=KL.length/\Inv m hh) (fun p _=>((KL.length:Int) - p.1).toNat) ⟨0,rfl,Ayg _,h0⟩ ?_;rintro _ hh ⟨m,rfl,hm,hi⟩ Q f;dsimp only;have r:=e m hh hi;have g:=r.len;simp only [Ayv,Aqv] at g;refine Zn (fun q=>?_) fun q=>?_
  ·have a:m<KL.length:=by omega
   have c:KL[m]?=some KL[m]:=Axy a;generalize KL[m]=k at c;refine r.idx (i:=(m:Int)) (n:=m) rfl (v:=iv k) (by rw [Awy,c];rfl) fun b o _ j=>⟨k,j,?_⟩;refine hs m k hh _ c hi fun h' d=>?_;rw [wrS a (by omega)];exact f _ _ ⟨m+1,rfl,a,d⟩ (by show ((KL.length:Int) - ((m+1:Nat):Int)).toNat<((KL.length:Int) - ((m:Nat):Int)).toNat;omega)
  ·have:m=KL.length:=by omega
   subst this;exact he hh hi
structure Zsp {σ:Type} (hA:Zf) (b12:Nat) (mk:Sl->Obj) (n:Nat) (gV:σ->List Value) (hd:σ->List Nat) (P:Zf->TgM->σ->Prop) (old:List σ) (T:TgM) (KL:List Int) (m:Nat) (hh:Zf) (s:Sl) (done:List σ) (T':TgM):Prop where
  u:Upd (· = b12) hA hh
  c:obj hh b12=some (mk s)
  o:Own hh (sz hA) s n (done.flatMap gV)
  l:done.length=m
  sel:Sel hd old KL (sz hA) (sz hh) done
  sub:Zdl T T'
  new:∀ j,T' j≠none->T j≠none\/(sz hA<=j/\j<sz hh)
  sb:∀ b,s.blk=some b->T' b=none
  b:T' b12=none
  e:∀ (i:Nat) (x:σ),done[i]?=some x->P hh T' x
def ZpR {σ:Type} (P:Zf->TgM->σ->Prop):Prop:=∀ {a b:Zf} {U c:TgM} {x:σ},P a U x->Zdi (fun _=>False) U a b->Zdl U c->sz a<=sz b->P b c x
section
variable {σ:Type} {hA hh:Zf} {b12:Nat} {mk:Sl->Obj} {n:Nat} {gV:σ->List Value} {hd:σ->List Nat} {P:Zf->TgM->σ->Prop} {old:List σ} {T T':TgM} {KL:List Int} {m:Nat} {s:Sl} {done:List σ}
theorem Zsp.add (I:Zsp hA b12 mk n gV hd P old T KL m hh s done T') (G:ZpR P) (hT:∀ j,T j≠none->j<sz hA) (K:b12<sz hA) {h1 d h3:Zf} {mk':Sl->Obj} {s':Sl} {x:σ} {T'':TgM} (B:Upd (· = b12) hh h1) (L:Own d (sz hA) s' n (done.flatMap gV++gV x)) (C:Upd (fun k=>s.blk=some k) h1 d)
    (M:obj h3 b12=some (mk' s')) (z:Upd (· = b12) d h3) (D:s'.blk=s.blk\/s'.blk=some (sz h1)) (p:Sel hd old KL (sz hA) (sz h1) (done++[x])) (sub:Zdl T' T'') (new:∀ j,T'' j≠none->T' j≠none\/(sz hh<=j/\j<sz h1)) (H:∀ b,s.blk=some b->T'' b=none) (r:T'' b12=none) (N:P h1 T'' x) :
    Zsp hA b12 mk' n gV hd P old T KL (m+1) h3 s' (done++[x]) T'':=by
  have w0:sz hA<=sz hh:=I.u.size;have w1:sz hh<=sz h1:=B.size;have v:sz h1<=sz d:=C.size;have A:sz d<=sz h3:=z.size
  have w:Zdi (fun _=>False) T'' h1 h3:=fun j t a _=>by
    have f:j<sz h1:=by
      rcases new j (Y9 a) with g | g
      ·rcases I.new j g with g | g
       ·have:=hT j g;omega
       ·omega
      ·exact g.2
    have O:¬ s.blk=some j:=fun e=>by rw [H j e] at a;cases a
    have Q:¬ j=b12:=fun e=>by rw [e,r] at a;cases a
    exact (z.old j (Aqq f v) Q).trans (C.old j f O)
  have E:Zdi (fun _=>False) T' hh h3:=fun j t a hd=>by
    have f:j<sz hh:=by
      rcases I.new j (Y9 a) with g | g
      ·have:=hT j g;omega
      ·exact g.2
    exact (w j t (sub.to a) hd).trans (B.old j f fun e=>by rw [e,I.b] at a;cases a)
  refine ⟨?_,M,?_,by rw [Awe,I.l];rfl,p.top (Aqp v A),I.sub.trans sub,fun j f=>?_,fun b c=>?_,r,fun i y R=>?_⟩
  ·refine ⟨Aqp I.u.size (Aqp w1 (Aqp v A)),fun k J F=>?_⟩
   have S:k<sz hA:=J;refine (z.old k (show k<sz d by omega) F).trans ((C.old k (show k<sz h1 by omega) fun e=>?_).trans ((B.old k (show k<sz hh by omega) F).trans (I.u.old k J F)));have:=(I.o.lt e).1;omega
  ·rw [Ayl]
   have:=Zsj L z K;simpa using this
  ·rcases new j f with g | g
   ·rcases I.new j g with g | g
    ·exact .inl g
    ·exact .inr ⟨g.1,by omega⟩
   ·exact .inr ⟨by omega,by omega⟩
  ·rcases D with e | e
   ·exact H b (e▸c)
   ·rw [e] at c
    cases c
    cases q:T'' (sz h1) with
    | none=>rfl
    | some t =>
      rcases new _ (Y9 q) with g | g
      ·rcases I.new _ g with g | g
       ·have:=hT _ g;omega
       ·omega
      ·omega
  ·rcases ZqW R with h | ⟨_,h⟩
   ·exact G (I.e i y h) E sub (Aqp w1 (Aqp v A))
   ·subst h;exact G N w (Zdl.refl _) (Aqp v A)
theorem Zsp.keepOld (I:Zsp hA b12 mk n gV hd P old T KL m hh s done T') (c:ZpR P) (hT:∀ j,T j≠none->j<sz hA) {k:Nat} {x:σ} (_:old[k]?=some x) (d:P hA T x):P hh T' x :=
  c d (fun j t a _=>I.u.old j (ZbA hT a) fun e=>by
   have:=I.sub.to a;rw [e,I.b] at this
   cases this) I.sub I.u.size
end
end Go.Proofs.YthbfgkphlmlihaaGreat
