/- The tree of nodes: what is fresh; a new node. -/
import Derived.Test.YthbfgkphlmlihaaGreatPa9
set_option linter.unusedVariables false
set_option linter.unusedSimpArgs false
namespace Go.Proofs.YthbfgkphlmlihaaGreat
open Go Go.Fw
open Nat renaming reduceAdd->Nqa,reduceLT->Nqb,reduceLeDiff->Nqc,reduceEqDiff->Nqd,reduceMul->Nqe
def Tree.isNew (t:Tree) (k:K4):Bool:=(t.f k).isNone
def Tree.freshN (t:Tree) (l:List K4):Nat:=(l.filter t.isNew).length
theorem ZqY.isNone {h:Zf} {tb mb base:Nat} {ks:Sl} {A:K4->Option Nat} {t:Tree} (c:ZqY h tb mb base ks A t) (k:K4):t.isNew k=(A k).isNone:=by
  unfold Tree.isNew
  rcases c.node k with ⟨a,b⟩ | ⟨q,n,a,b,_⟩<;>rw [a,b]<;>rfl
theorem Zpx {h:Zf} {tb:Nat} {O:Nat->Prop} {t:Tree} (S:ZaC h tb O t) {s:Sl} {l:List K4} (hs:Row h s 4 (l.flatMap k4L)) (hd:l.Nodup) (hl:l.length<=100000) {K:Int->Zf->Prop} (z:∀ h',Ext h h'->K (t.freshN l:Int) h'):Xv (some ⟨tb,0,none⟩) s K h:=by
  obtain ⟨mb,base,ks,A,hi,ho⟩:=S;unfold Xv Ze0 Zfk;have hlen:=hs.len;rw [YV Zch] at hlen;have T:s.len=l.length:=(Ayf (by decide) hlen).symm;have c0:obj (h.push (.map #[] 0)) (sz h)=some (.map #[] 0):=Zc6;have U:Ext h (h.push (.map #[] 0)):=X4 (Ext.refl h)
  refine Za (Zbd (fun p B=>∃ i:Nat,p=((i:Int),())/\i<=l.length/\Ext h B/\∃ g,Zq2 B (sz h) g (t.freshN (l.take i))/\∀ k,k∉l.take i->g k=none) (fun p _=>l.length - p.1.toNat)
    ⟨0,rfl,Ayg _,U,_,(Zq2.new c0).congr rfl,fun _ _=>rfl⟩ ?_)
  rintro _ B ⟨i,rfl,V,he,g,hm,u⟩ Q P;dsimp only;refine Zn (fun q=>?_) fun q=>?_
  ·have f:i<l.length:=by omega
   have H:l[i]?=some l[i]:=Axy f;generalize l[i]=k at H;obtain ⟨b,o,hb,W,C,I⟩:=ZbB Zch (hs.ext he) H (by decide);have v0:=I 0 _ rfl;have v1:=I 1 _ rfl;have v2:=I 2 _ rfl;have v3:=I 3 _ rfl;have D:IntKind.wrap .i64 ((i:Int)+1)=((i+1:Nat):Int):=wrS f (by omega);have m:l.take (i+1)=l.take i++[k]:=by rw [Aym,H];rfl
   have J:k∉l.take i:=fun c=>by
     have E:=hd;rw [<- Ayn i l,List.nodup_append] at E;refine E.2.2 k c k ?_ rfl;refine Axo (i:=0) ?_;rw [Aqg,Axi];exact H
   refine C rfl (rI v0 (rS v1 (rS v2 (rS v3 (ZJ fun h1 c1 X z1=>Zbe c1 fun y r Y z2=>Zg ?_)))));have R:Ext B y:=X.then Y fun k z=>by subst z;exact Aqo _
   have v:=he.trans R;have F:ZqY y tb mb base ks A t:=hi.congr fun j _ w=>ZG v w;obtain ⟨n,L⟩:=F.map;have G:=hm.congr (ZG R hm.lt);refine rM (Zb F.cells rfl) (rI (Zb r rfl) (rS (Zb r rfl) (rS (Zb r rfl) (rS (Zb r rfl) (L.get k ?_)))));have d:=hi.isNone k
   rcases hi.node k with ⟨a,Z⟩ | ⟨q9,n9,a,Z,_⟩
   ·rw [a] at d ⊢
    refine ⟨none,rfl,YC (rI (Zb r rfl) (rS (Zb r rfl) (rS (Zb r rfl) (rS (Zb r rfl) (G.put (k:=k) ?_ _ fun h3 M u3 z3=>?_)))))⟩
    ·exact u k J
    ·rw [D]
     refine P _ _ ⟨i+1,rfl,f,v.then u3 fun k z=>by subst z;exact Aqo _,?_⟩ (by show l.length - ((i+1:Nat):Int).toNat<l.length - ((i:Nat):Int).toNat;omega);have h1:(l.take (i+1)).filter t.isNew=(l.take i).filter t.isNew++[k]:=by rw [m,List.filter_append];congr 1;simp [d]
     have y:t.freshN (l.take (i+1))=t.freshN (l.take i)+1:=by unfold Tree.freshN;rw [h1];simp
     refine ⟨_,by rw [y];exact M,fun j w=>?_⟩;rw [m] at w;have N:j≠k:=fun e=>w (by rw [e];simp);exact (if_neg N).trans (u j fun c=>w (Axx.2 (.inl c)))
   ·rw [a] at d ⊢
    refine ⟨_,rfl,Zt ?_⟩;rw [D];have h1:(l.take (i+1)).filter t.isNew=(l.take i).filter t.isNew:=by rw [m,List.filter_append];simp [d]
    have y:t.freshN (l.take (i+1))=t.freshN (l.take i):=by unfold Tree.freshN;rw [h1]
    refine P _ _ ⟨i+1,rfl,f,v,g,by rw [y];exact G,fun j w=>u j fun c=>w (by rw [m];exact Axx.2 (.inl c))⟩ (by show l.length - ((i+1:Nat):Int).toNat<l.length - ((i:Nat):Int).toNat;omega)
  ·have x:l.take i=l:=Awd (by omega)
   rw [x] at hm;exact hm.len (Za (z B he))
theorem ZOg {h:Zf} {base:Nat} {s:Sl} {l m:List K4} (ho:Own h base s 4 (l.flatMap k4L)) {n:Nat} (b:m.length=n) (g:l.length+n<=100000) (a:base<=sz h) {K:Sl->Zf->Prop}
    (c:∀ s' h',Own h' base s' 4 ((l++m).flatMap k4L)->Upd (fun k=>s.blk=some k) h h'->(s'.blk=s.blk\/s'.blk=some (sz h))->K s' h'):app 102 4 56 [.int .u8 0,.string (ByteArray.mk #[]),.string (ByteArray.mk #[]),.string (ByteArray.mk #[])] s n (m.flatMap k4L) h K:=by
  have hl:=ho.len;rw [YV Zch] at hl;have hs:s.len=l.length:=(Ayf (by decide) hl).symm;refine ho.app (n:=n) (by rw [YV Zch,b]) (ZBI m) rfl (by omega) (by omega) a fun s' h' d i e f=>c s' h' (by rw [Ayl];exact d) e f
def Tree.make (t:Tree) (k:K4):Tree:=match t.f k with
  | some _=>t
  | none=>⟨fun j=>if j=k then some Node.zero else t.f j,t.keys++[k],t.last⟩
theorem Zpi {h:Zf} {tb:Nat} {O:Nat->Prop} {t:Tree} (ht:ZaC h tb O t) {k:K4} (hl:t.isNew k=true->t.keys.length<512) {K:Zf->Prop}
    (hk:∀ h' O',ZaC h' tb O' (t.make k)->Upd O h h'->(∀ j,O' j->O j\/(sz h<=j/\j<sz h'))->(∀ j,O j->O' j)->K h'):Xu (some ⟨tb,0,none⟩) k K h:=by
  obtain ⟨mb,base,ks,A,hi,ho⟩:=ht;unfold Xu ZeZ;refine ZJ fun h1 c1 g z1=>Zg ?_;have u:ZqY h1 tb mb base ks A t:=hi.congr fun j _ d=>ZG g d;obtain ⟨n,C⟩:=u.map;refine rM (Zb u.cells rfl) (rI (Zb c1 rfl) (rS (Zb c1 rfl) (rS (Zb c1 rfl) (rS (Zb c1 rfl) (C.get k ?_)))));have y:=hi.isNone k
  rcases hi.node k with ⟨a,D⟩ | ⟨q9,n9,a,D,_⟩
  case inr =>
    rw [a];refine ⟨_,rfl,Zt (hk h1 O ?_ (g.upd _) (fun j d=> .inl d) fun j d=>d)⟩;have:t.make k=t:=by unfold Tree.make;rw [D]
    rw [this];exact ⟨mb,base,ks,A,u,ho⟩
  rw [a] at y ⊢;have aq:=hl y;refine ⟨none,rfl,YC (Zg (rM (Zb u.cells rfl) (rI (Zb c1 rfl) (rS (Zb c1 rfl) (rS (Zb c1 rfl) (rS (Zb c1 rfl) (ZvY fun z n2 x z2=>?_)))))))⟩;have F:=Zj c1 x;have G:ZqY z tb mb base ks A t:=u.congr fun j _ d=>ZG x d;refine ⟨⟨Zb F rfl,Zb F rfl,Zb F rfl,Zb F rfl,trivial⟩,ZZ (Zb G.cells rfl),?_⟩;refine (C.congr (ZG x C.lt)).put (k:=k) (by rw [a];rfl) _ fun h3 V N z3=>?_;have av:tb<sz h:=Zp hi.cells;have aw:mb<sz h:=by obtain ⟨n9,W⟩:=hi.map;exact W.lt
  have v:∀ b,ks.blk=some b->b<sz h:=fun b o=>(hi.row.lt o).2;have s1:sz h<=sz h1:=g.size;have s2:sz z=sz h1+5:=z2;have s3:sz h3=sz z:=z3;have t3:obj h3 tb=_:=(N.old tb (show tb<sz z by omega) (fun e=>hi.mt e.symm)).trans G.cells;have P:obj h3 (sz h)=_:=(N.old (sz h) (show sz h<sz z by have:h1.size=h.size+1:=z1;simp only [YO] at this;omega) (by omega)).trans F;refine Zg (rL (Zb t3 rfl) (rI (Zb P rfl) (rS (Zb P rfl) (rS (Zb P rfl) (rS (Zb P rfl) (ZJ fun B c4 H z4=>?_))))));have t4:=Zj t3 H;refine ⟨ZZ (Zb t4 rfl),(Zj1 c4 rfl).rd ?_⟩;have s4:sz h3<=sz B:=H.size;have o4:Own B 0 ks 4 (t.keys.flatMap k4L):=(hi.row.congr fun b o hl _=>(H.old b (show b<sz h3 by have:=v b o;omega)).trans ((N.old b (show b<sz z by have:=v b o;omega) (hi.kb b o).2).trans ((x.old b (show b<sz h1 by have:=v b o;omega)).trans (g.old b hl)))).base (Ayg _);refine ZOg o4 (m:=[k]) (n:=1) rfl (by omega) (Ayg _) fun s5 Q o5 R b5=>?_;have t5:obj Q tb=_:=(R.old tb (show tb<sz B by omega) (fun e=>(hi.kb tb e).1 rfl)).trans t4;have aA:sz B<=sz Q:=R.size;refine Zg (Zbf t5 (show 0+1<3 by decide) rfl fun I c6 X z6=>?_);let S:Nat->Prop:=fun j=>j=tb\/j=mb\/ks.blk=some j;have J:Upd S z I:=(((N.mono fun j _ d=> .inr (.inl d)).trans (H.upd S)).trans (R.mono fun j _ d=> .inr (.inr d))).trans (X.mono fun j _ d=> .inl d);have U:Upd S h I:=((g.trans x).upd S).trans J
  have nS:∀ j,sz h<=j->¬ S j:=fun j d hs=>by
    rcases hs with c | c | c
    ·omega
    ·omega
    ·have:=v j c;omega
  have SO:∀ j,S j->O j:=fun j hs=>ho j (by
    rcases hs with c | c | c
    ·exact .inl c
    ·exact .inr (.inl c)
    ·exact .inr (.inr (.inl c)))
  have w:∀ b,s5.blk=some b->ks.blk=some b\/b=sz B:=fun b o=>by
    rcases b5 with c | c
    ·exact .inl (c▸o)
    ·rw [c] at o;exact .inr (Option.some.inj o).symm
  refine hk I (fun j=>O j\/(sz h<=j/\j<sz I)) ⟨mb,0,s5,fun j=>if j=k then some (sz h1) else A j,⟨?_,⟨n+1,?_⟩,?_,?_,?_,?_,hi.mt,?_,?_⟩,?_⟩ (U.mono fun j _ d=>SO j d) (fun j d=>d) fun j d=> .inl d
  ·have e:t.make k=⟨fun j=>if j=k then some Node.zero else t.f j,t.keys++[k],t.last⟩:=by unfold Tree.make;rw [D]
   rw [e];exact c6
  ·refine (show Zq2 I mb _ (n+1) from ?_)
   have:(fun j=>Option.map (fun q=>Value.pointer (some ⟨q+4,0,none⟩)) (if j=k then some (sz h1) else A j))=fun j=>if j=k then some (Value.pointer (some ⟨sz h1+4,0,none⟩)) else Option.map (fun q=>Value.pointer (some ⟨q+4,0,none⟩)) (A j):=by
     funext j
     split<;>rfl
   rw [this];refine V.congr ?_;exact (X.old mb (show mb<sz Q by omega) hi.mt).trans ((R.old mb (show mb<sz B by omega) fun e=>(hi.kb mb e).2 rfl).trans (H.old mb (show mb<sz h3 by omega)))
  ·have e:(t.make k).keys=t.keys++[k]:=by unfold Tree.make;rw [D]
   rw [e];refine o5.congr fun b o hl _=>X.old b hl fun L=>?_
   rcases w b o with c | c
   ·exact (hi.kb b c).1 L
   ·omega
  ·have e:(t.make k).keys=t.keys++[k]:=by unfold Tree.make;rw [D]
   rw [e];simp;omega
  ·intro j
   have e:(t.make k).f j=if j=k then some Node.zero else t.f j:=by unfold Tree.make;rw [D]
   by_cases p:j=k
   ·refine .inr ⟨sz h1,Node.zero,if_pos p,by rw [e,if_pos p],n2.congr fun i r T=>J.old i (show i<sz z by omega) (nS i (by omega))⟩
   ·rcases hi.node j with ⟨r,T⟩ | ⟨q,n9,r,T,E⟩
    ·exact .inl ⟨(if_neg p).trans r,by rw [e,if_neg p];exact T⟩
    ·refine .inr ⟨q,n9,(if_neg p).trans r,by rw [e,if_neg p];exact T,E.congr fun i g4 g5=>U.old i (show i<sz h by have:=E.lt;omega) fun hs=>?_⟩
     obtain ⟨Y,Z,o3⟩:=hi.out j q r i ⟨g4,g5⟩
     rcases hs with c | c | c
     ·exact Y c
     ·exact Z c
     ·exact o3 c
  ·have old:∀ j q,A j=some q->q+5<=sz h:=fun j q d=>by
     rcases hi.node j with ⟨r,_⟩ | ⟨q9,n9,r,_,E⟩
     ·rw [r] at d;cases d
     ·rw [r] at d;cases d;have:=E.lt;omega
   intro j j' q q' l s M
   by_cases g:j=k<;>by_cases x:j'=k
   ·exact absurd (g.trans x.symm) M
   ·rw [if_pos g] at l;rw [if_neg x] at s;cases l;exact .inr (by have:=old _ _ s;omega)
   ·rw [if_neg g] at l;rw [if_pos x] at s;cases s;exact .inl (by have:=old _ _ l;omega)
   ·rw [if_neg g] at l;rw [if_neg x] at s;exact hi.disj j j' q q' l s M
  ·intro b o
   rcases w b o with c | c
   ·exact hi.kb b c
   ·omega
  ·intro j q l i ae
   obtain ⟨w1,w2⟩:=ae
   by_cases g:j=k
   ·rw [if_pos g] at l;cases l
    refine ⟨by omega,by omega,fun L=>?_⟩
    rcases w i L with c | c
    ·have:=v i c;omega
    ·have:B.size=h3.size+1:=z4
     simp only [YO] at this;omega
   ·rw [if_neg g] at l
    obtain ⟨Y,Z,o3⟩:=hi.out j q l i ⟨w1,w2⟩;refine ⟨Y,Z,fun L=>?_⟩
    rcases w i L with c | c
    ·exact o3 c
    ·rcases hi.node j with ⟨r,_⟩ | ⟨q9,n9,r,_,E⟩
     ·rw [r] at l;cases l
     ·rw [r] at l;cases l;have:=E.lt;omega
  ·rintro j (c | c | c | ⟨i,q,c,w1,w2⟩)
   ·exact .inl (ho j (.inl c))
   ·exact .inl (ho j (.inr (.inl c)))
   ·rcases w j c with h8 | h8
    ·exact .inl (ho j (.inr (.inr (.inl h8))))
    ·have:sz B<sz Q:=by have:=(o5.lt c).2;rw [h8] at this;exact this
     exact .inr (by omega)
   ·dsimp only at c
    by_cases g:i=k
    ·rw [if_pos g] at c;cases c;exact .inr (by omega)
    ·rw [if_neg g] at c
     exact .inl (ho j (.inr (.inr (.inr ⟨i,q,c,w1,w2⟩))))
def Tree.put (t:Tree) (k:K4) (n:Node):Tree:=⟨fun j=>if j=k then some n else t.f j,t.keys,t.last⟩
theorem ZaC.lt {h:Zf} {tb:Nat} {O:Nat->Prop} {t:Tree} (a:ZaC h tb O t):tb<sz h:=by
  obtain ⟨mb,base,ks,A,hi,ho⟩:=a;exact Zp hi.cells
theorem ZaC.last {h:Zf} {tb:Nat} {O:Nat->Prop} {t:Tree} (a:ZaC h tb O t):ZA 2 (obj h tb)=some (iv t.last):=by
  obtain ⟨mb,base,ks,A,hi,ho⟩:=a;exact Zb hi.cells rfl
theorem ZaC.keys {h:Zf} {tb:Nat} {O:Nat->Prop} {t:Tree} (a:ZaC h tb O t):∃ ks:Sl,ZA 1 (obj h tb)=some (slV ks)/\ks.len=t.keys.length/\t.keys.length<=512:=by
  obtain ⟨mb,base,ks,A,hi,ho⟩:=a;have hl:=hi.row.len;rw [YV Zch] at hl;exact ⟨ks,Zb hi.cells rfl,(Ayf (by decide) hl).symm,hi.len⟩
theorem ZaC.look {h:Zf} {tb:Nat} {O:Nat->Prop} {t:Tree} (s:ZaC h tb O t) (k:K4) :
    ∃ mb,ZA 0 (obj h tb)=some (.map (some mb))/\((t.f k=none/\∀ K:Option Value->Prop,K none->Zcf [(.int .u8),.string,.string,.string] h (some mb) (k4L k) K) \/
      ∃ q n,t.f k=some n/\Zge h q n/\(∀ j,inN q j->O j/\j≠tb)/\(∀ K:Option Value->Prop,K (some (.pointer (some ⟨q+4,0,none⟩)))->Zcf [(.int .u8),.string,.string,.string] h (some mb) (k4L k) K) /\
        ∀ h' g,Zge h' q g->Upd (inN q) h h'->ZaC h' tb O (t.put k g)):=by
  obtain ⟨mb,base,ks,A,hi,ho⟩:=s;obtain ⟨n,hm⟩:=hi.map;refine ⟨mb,Zb hi.cells rfl,?_⟩
  rcases hi.node k with ⟨a,b⟩ | ⟨q,n,a,b,c⟩
  ·exact .inl ⟨b,fun K l=>hm.get k (by rw [a];exact l)⟩
  ·refine .inr ⟨q,n,b,c,fun j d=>⟨ho j (.inr (.inr (.inr ⟨k,q,a,d⟩))),(hi.out k q a j d).1⟩,fun K l=>hm.get k (by rw [a];exact l),fun h' g m u=>?_⟩
   have keep:∀ j,j<sz h->¬ inN q j->obj h' j=obj h j:=fun j d v=>u.old j d v
   refine ⟨mb,base,ks,A,⟨(keep tb (Zp hi.cells) fun d=>(hi.out k q a _ d).1 rfl).trans hi.cells,⟨_,hm.congr (keep mb hm.lt fun d=>(hi.out k q a _ d).2.1 rfl)⟩,
     hi.row.congr fun b w hl _=>keep b hl fun d=>(hi.out k q a _ d).2.2 w,hi.len,fun j=>?_,hi.disj,hi.mt,hi.kb,hi.out⟩,ho⟩
   by_cases e:j=k
   ·exact .inr ⟨q,g,by rw [e];exact a,if_pos e,m⟩
   ·rcases hi.node j with ⟨i,o⟩ | ⟨p,x,i,o,r⟩
    ·exact .inl ⟨i,(if_neg e).trans o⟩
    ·refine .inr ⟨p,x,i,(if_neg e).trans o,r.congr fun y w1 z=>keep y (by have:=r.lt;omega) fun d=>?_⟩
     have:=hi.disj j k p q i a e;obtain ⟨v1,v2⟩:=d;omega
theorem ZaC.setLast {h:Zf} {tb:Nat} {O:Nat->Prop} {t:Tree} (k:ZaC h tb O t) {at_:Int} {K:Zf->Prop} (l:∀ h',ZaC h' tb O ⟨t.f,t.keys,at_⟩->Upd O h h'->K h'):st h tb 2 (iv at_) K:=by
  obtain ⟨mb,base,ks,A,hi,ho⟩:=k;refine Zbf hi.cells (show 2<3 by decide) rfl fun h' m a z'=>l h' ⟨mb,base,ks,A,⟨m,?_,?_,hi.len,fun j=>?_,hi.disj,hi.mt,hi.kb,hi.out⟩,ho⟩ (a.mono fun j _ o=>by rw [o];exact ho tb (.inl rfl))
  ·obtain ⟨n,hm⟩:=hi.map
   exact ⟨n,hm.congr (a.old _ hm.lt hi.mt)⟩
  ·exact hi.row.congr fun b p hl _=>a.old b hl (hi.kb b p).1
  ·rcases hi.node j with g | ⟨d,q,e,r,i⟩
   ·exact .inl g
   ·exact .inr ⟨d,q,e,r,i.congr fun c w1 s=>a.old c (show c<sz h by have:=i.lt;omega) (hi.out j d e c ⟨w1,s⟩).1⟩
def Zom (h:Zf) (p:Option Addr) (o:Option Node):Prop:=(o=none/\p=none)\/∃ c a d b mb n,o=some n/\p=some ⟨c,0,none⟩/\Zig h c a d b mb n
theorem Zom.ext {h h':Zf} {p:Option Addr} {o:Option Node} (c:Zom h p o) (e:Ext h h'):Zom h' p o:=by
  rcases c with g | ⟨d,a,f,b,mb,n,h1,i,h3⟩
  ·exact .inl g
  ·exact .inr ⟨d,a,f,b,mb,n,h1,i,h3.ext e⟩
theorem ZpP {h:Zf} {tb:Nat} {O:Nat->Prop} {t:Tree} (e:ZaC h tb O t) {k:K4} {K:Option Addr->Zf->Prop} (d:∀ h' p,Ext h h'->Zom h' p (t.f k)->K p h'):ZbX (some ⟨tb,0,none⟩) k K h:=by
  unfold ZbX Zgg;refine ZJ fun h1 c1 b o=>Zt (Zg ?_);obtain ⟨mb,g,a⟩:=(e.ext b).look k;refine rM g (rI (Zb c1 rfl) (rS (Zb c1 rfl) (rS (Zb c1 rfl) (rS (Zb c1 rfl) ?_))))
  rcases a with ⟨c,a⟩ | ⟨q,n,c,i,_,a,_⟩
  ·refine a _ ⟨none,rfl,Ztx (d h1 none b (.inl ⟨c,rfl⟩))⟩
  ·refine a _ ⟨_,rfl,Zv3 i fun j l m r=>d j _ (b.trans m) (.inr ⟨_,_,_,_,_,n,c,rfl,l⟩)⟩
theorem ZAM {t:Tree} {k j:K4} (h:j≠k):(t.make k).isNew j=t.isNew j:=by
  unfold Tree.make Tree.isNew;split
  ·rfl
  ·show (if j=k then some Node.zero else t.f j).isNone=_
   rw [if_neg h]
theorem Zph {t:Tree} {k:K4}:∀ {l:List K4},k∉l->(t.make k).freshN l=t.freshN l
  | [],_=>rfl
  | x::l,h=>by
    have h1:x≠k:=fun e=>h (by rw [e];exact List.mem_cons_self ..);have a:=Zph (t:=t) (k:=k) (l:=l) fun hm=>h (Aws _ hm);unfold Tree.freshN at a ⊢;rw [List.filter_cons,List.filter_cons,ZAM h1];split<;>simp [a]
theorem ZAN (t:Tree) (k:K4):(t.make k).keys.length=t.keys.length+(if t.isNew k=true then 1 else 0):=by
  unfold Tree.make Tree.isNew
  cases h:t.f k with
  | none=>simp
  | some n=>simp
theorem ZvF (t:Tree) (k:K4) (l:List K4):t.freshN (k::l)=(if t.isNew k=true then 1 else 0)+t.freshN l:=by
  unfold Tree.freshN;rw [List.filter_cons];split
  ·rw [Aqj];omega
  ·omega
def Tree.room (t:Tree) (l:List K4):Prop:=t.keys.length+t.freshN l<=512
instance (t:Tree) (l:List K4):Decidable (t.room l):=inferInstanceAs (Decidable (_<=_))
theorem Zro {t:Tree} {k:K4} {l:List K4} (a:t.room (k::l)) (b:k∉l):(t.isNew k=true->t.keys.length<512)/\(t.make k).room l:=by
  unfold Tree.room at *;rw [ZvF] at a;rw [ZAN,Zph b];refine ⟨fun e=>?_,?_⟩
  ·rw [if_pos e] at a;omega
  ·omega
theorem Zj8 (c:C8):(YK c).Nodup:=by
  unfold YK Zwe ZG5;split<;>split<;>simp
theorem ZmP (c:C8):(YK c).length<=5:=by
  unfold YK Zwe ZG5;split<;>split<;>simp
theorem Zm7 {S T:Nat->Prop} {a b c:Zf} (h:Upd S a b) (h':Upd T b c) (hs:∀ k,k<sz a->T k->S k):Upd S a c :=
  ⟨Aqp h.size h'.size,fun k d e=>(h'.old k (Aqq d h.size) fun hT=>e (hs k d hT)).trans (h.old k d e)⟩
theorem ZlM {at_:Int} {K:Bool->Zf->Prop} {h:Zf} (a:K (inB at_ 0 1152921504606846976) h):ZbF at_ K h:=by
  unfold ZbF ZiF;unfold inB at a;exact ⟨fun e=>by rw [e] at a;exact Zc a,fun e=>by rw [e] at a;exact a⟩
def Tree.full (t:Tree) (k:K4):Bool:=match t.f k with
  | some n=>decide (n.fl>=4096)
  | none=>false
theorem ZvE {h:Zf} {tb d:Nat} {O:Nat->Prop} {t:Tree} {T:TypeId} (g:ZaC h tb O t) (f:obj h d=some (.cells [.pointer (some ⟨tb,0,none⟩)].toArray T (0,0))) {k:K4} {K:Bool->Zf->Prop} (i:∀ h',Ext h h'->K (t.full k) h'):Zcw k (some ⟨d,0,none⟩) K h:=by
  unfold Zcw Ze1;refine ZJ fun h1 c1 c m=>Zg (rP (Zb (Zj f c) rfl) (Zg ?_));obtain ⟨mb,j,b⟩:=(g.ext c).look k;have hd:Zo h1 [(d,0,.pointer (some ⟨tb,0,none⟩))]:=ZZ (Zb (Zj f c) rfl);have a:=i h1 c;unfold Tree.full at a;refine rM j (rI (Zb c1 rfl) (rS (Zb c1 rfl) (rS (Zb c1 rfl) (rS (Zb c1 rfl) ?_))))
  rcases b with ⟨e,b⟩ | ⟨q,n,e,l,_,b,_⟩
  ·rw [e] at a
   exact b _ ⟨none,rfl,hd,ZjW ⟨hd,Zc a⟩⟩
  ·rw [e] at a
   exact b _ ⟨_,rfl,hd,ZkY l ⟨hd,Zc a⟩⟩
theorem Zx1 {h:Zf} {tb v:Nat} {O:Nat->Prop} {t:Tree} {T:TypeId} (y:ZaC h tb O t) (z:obj h v=some (.cells [.pointer (some ⟨tb,0,none⟩)].toArray T (0,0))) {s:Sl} {l:List K4} (hs:Row h s 4 (l.flatMap k4L)) (hl:l.length<=100000)
    {K:Bool->Zf->Prop} (e:∀ h',Ext h h'->K (l.any t.full) h'):Zs s (some ⟨v,0,none⟩,()) K h:=by
  unfold Zs ZS Z6 Yc;have hlen:=hs.len;rw [YV Zch] at hlen;have A:s.len=l.length:=(Ayf (by decide) hlen).symm;refine Za (Zbd (fun p w=>∃ i:Nat,p=((i:Int),())/\i<=l.length/\Ext h w/\(l.take i).any t.full=false) (fun p _=>l.length - p.1.toNat) ⟨0,rfl,Ayg _,Ext.refl _,rfl⟩ ?_);rintro _ w ⟨i,rfl,B,he,j⟩ Q C;dsimp only;refine Zn (fun q=>?_) fun q=>?_
  ·have a:i<l.length:=by omega
   have f:l[i]?=some l[i]:=Axy a;generalize l[i]=k at f;obtain ⟨b,o,D,E,d,g⟩:=ZbB Zch (hs.ext he) f (by decide);have v0:=g 0 _ rfl;have v1:=g 1 _ rfl;have v2:=g 2 _ rfl;have v3:=g 3 _ rfl;have m:IntKind.wrap .i64 ((i:Int)+1)=((i+1:Nat):Int):=wrS a (by omega);have n:l.take (i+1)=l.take i++[k]:=by rw [Aym,f];rfl
   refine Za (d rfl (rI v0 (rS v1 (rS v2 (rS v3 (ZvE (y.ext he) (Zj z he) fun h1 x=>⟨fun r=>?_,fun r=>?_⟩))))))
   ·have:l.any t.full=true:=List.any_eq_true.2 ⟨k,Axo f,r⟩
    rw [this] at e;refine Za (Zc ?_);have:decide ((i:Int)>=0)=true:=by simp
    rw [this];exact e _ (he.trans x)
   ·rw [m]
    refine C _ _ ⟨i+1,rfl,a,he.trans x,?_⟩ (by show l.length - ((i+1:Nat):Int).toNat<l.length - ((i:Nat):Int).toNat;omega);have u:t.full k=false:=r;rw [n,List.any_append,j];simp [u]
  ·have c:l.take i=l:=Awd (by omega)
   rw [c] at j;rw [j] at e;exact Za (Zc (e _ he))
def Tree.on (t:Tree) (k:K4) (g:Node->Node):Tree:=match t.f k with
  | some n=>t.put k (g n)
  | none=>t
def Tree.steps (g:Node->Node):List K4->Tree->Tree
  | [],t=>t
  | k::l,t=>Tree.steps g l ((t.make k).on k g)
def Tree.noteE (t:Tree) (c:C8) (full:Bool):Int :=
  if ZiA c≠0 then ZiA c else if ¬ (0<=c.1/\c.1<=1152921504606846976) then 2 else if ¬ (1<=c.2.2.2.2.2.1/\c.2.2.2.2.2.1<=1099511627776) then 2 else if c.1<t.last then 7
  else if ¬ t.room (YK c) then 3 else if full=true/\(YK c).any t.full=true then 3 else 0
def Tree.noted (t:Tree) (c:C8) (full:Bool) (g:Node->Node):Tree:=if t.noteE c full=0 then (let t':=t.steps g (YK c);⟨t'.f,t'.keys,c.1⟩) else t
theorem ZAO (t:Tree) (k:K4):∃ n,(t.make k).f k=some n:=by
  unfold Tree.make;split
  ·rename_i n h;exact ⟨n,h⟩
  ·exact ⟨Node.zero,if_pos rfl⟩
theorem ZDS (t:Tree) (k:K4) (g:Node->Node):(t.on k g).keys=t.keys:=by unfold Tree.on;split<;>rfl
theorem ZBB (t:Tree) (k j:K4) (g:Node->Node):(t.on k g).isNew j=t.isNew j:=by
  unfold Tree.on;split
  ·rename_i n h
   unfold Tree.isNew Tree.put;dsimp only
   by_cases e:j=k
   ·rw [if_pos e,e,h];rfl
   ·rw [if_neg e]
  ·rfl
theorem ZDR {t:Tree} {k:K4} {g:Node->Node} {l:List K4} (h:t.room l):(t.on k g).room l:=by
  unfold Tree.room Tree.freshN at *;rw [ZDS];have:(t.on k g).isNew=t.isNew:=funext fun j=>ZBB t k j g;rw [this];exact h
abbrev Zsl (O O':Nat->Prop) (h h':Zf):Prop:=(∀ j,O' j->O j\/(sz h<=j/\j<sz h'))/\∀ j,O j->O' j
theorem Zpb {f:Option Addr->Option Addr->(Int->Zf->Prop)->Zf->Prop} {g:Node->Node} {cb:Nat} {x:Obj} (hf:∀ (h:Zf) (q:Nat) (n:Node) (K:Int->Zf->Prop),Zge h q n->obj h cb=some x->(∀ e h',Zge h' q (g n)->Upd (inN q) h h'->K e h')->f (some ⟨q+4,0,none⟩) (some ⟨cb,0,none⟩) K h)
    {h:Zf} {tb:Nat} {O:Nat->Prop} {t:Tree} (ht:ZaC h tb O t) (hO:∀ j,O j->j<sz h) (ae:obj h cb=some x) (af:¬ O cb) {c:C8} (hz:Zhs c) {full:Bool} {K:Int->Zf->Prop}
    (hk:∀ h' O',ZaC h' tb O' (t.noted c full g)->Upd O h h'->Zsl O O' h h'->K (t.noteE c full) h') :
    YU ZbH ZbF Xv Zs Xu f (some ⟨tb,0,none⟩) c full (some ⟨cb,0,none⟩,()) K h:=by
  have no:∀ e (a:Zf),Ext h a->e≠0->t.noteE c full=e->K e a:=fun e a e9 h1 h2=>by
    have:=hk a O (by unfold Tree.noted;rw [if_neg (by rw [h2];exact h1)];exact ht.ext e9) (e9.upd _) ⟨fun j d=> .inl d,fun j d=>d⟩;rwa [h2] at this
  unfold YU;refine ZJ fun h1 c1 e1 z1=>ZJ fun h3 I e3 z3=>Za ?_;have p3:=Zj c1 e3;refine rP (Zb p3 rfl) (Zt (rI (Zb I rfl) (rS (Zb I rfl) (rS (Zb I rfl) (rS (Zb I rfl) (rB (Zb I rfl) (rI (Zb I rfl) (rL (Zb I rfl) ?_))))))));refine ZlB (c:=c) hz fun s B e4 V=>Za (Zc (ZfO (fun C=>Za ?_) fun C=>?_))
  ·exact no _ B ((e1.trans e3).trans e4) C (by unfold Tree.noteE;rw [if_pos C])
  rw [if_pos C] at V;have u:Ext h B:=(e1.trans e3).trans e4;have W:=Zj I e4;have p4:=Zj p3 e4;have t4:=ht.ext u;refine rI (Zb W rfl) (ZlM ?_)
  by_cases X:0<=c.1/\c.1<=1152921504606846976
  case neg =>
    have:inB c.1 0 1152921504606846976=false:=by unfold inB;simp;omega
    rw [this];exact YC (Za (no 2 B u (by decide) (by unfold Tree.noteE;rw [if_neg (fun a=>a C),if_pos X])))
  have:inB c.1 0 1152921504606846976=true:=by unfold inB;simp;omega
  rw [this];refine Zt (rI (Zb W rfl) ?_)
  by_cases Y:1<=c.2.2.2.2.2.1/\c.2.2.2.2.2.1<=1099511627776
  case neg =>
    have hE:t.noteE c full=2:=by unfold Tree.noteE;rw [if_neg (fun a=>a C),if_neg (fun a=>a X),if_pos Y]
    refine Zn (fun q2=>Za (no 2 B u (by decide) hE)) fun q2=>rI (Zb W rfl) (Zc (Zn (fun q3=>Za (no 2 B u (by decide) hE)) fun q3=>?_));exact absurd ⟨by omega,by omega⟩ Y
  refine Zn (fun q2=>by omega) fun q2=>rI (Zb W rfl) (Zc (Zn (fun q3=>by omega) fun q3=>?_));refine rI (Zb W rfl) (rP (Zb p4 rfl) (Zg (rI t4.last (Zc (Zn (fun q4=>Za (no 7 B u (by decide) ?_)) fun q4=>?_)))))
  ·unfold Tree.noteE;rw [if_neg (fun a=>a C),if_neg (fun a=>a X),if_neg (fun a=>a Y),if_pos q4]
  obtain ⟨ks,ak,aQ,bA⟩:=t4.keys;refine rP (Zb p4 rfl) (Zg (rP (Zb p4 rfl) (Zg (rL ak ?_))));have bB:=ZmP c;refine Zpx t4 V.row (Zj8 c) (by omega) fun h5 N=>?_;have t5:=t4.ext N;have p5:=Zj p4 N;have c5:=Zj W N;have P:=u.trans N;have an:ZA 1 (obj h5 tb)=some (slV ks):=by rw [ZG N t4.lt];exact ak
  refine ⟨ZZ an,ZZ (Zb p5 rfl),ZZ (Zb p5 rfl),Zc ?_⟩;rw [aQ,Yr (by omega) (by omega)];have w:((t.freshN (YK c):Int)>512 - (t.keys.length:Int))↔¬ t.room (YK c):=by unfold Tree.room;omega
  refine Zn (fun q5=>Za (no 3 h5 P (by decide) ?_)) fun q5=>?_
  ·unfold Tree.noteE;rw [if_neg (fun a=>a C),if_neg (fun a=>a X),if_neg (fun a=>a Y),if_neg q4,if_pos (w.1 q5)]
  have hr:t.room (YK c):=Classical.byContradiction fun a=>q5 (w.2 a);refine Zls (fun _ l=>Ext h5 l/\¬ (full=true/\(YK c).any t.full=true)) ?_ fun Q hQ=>?_
  case refine_2 =>
    refine ⟨fun J=>Zx1 t5 p5 (V.row.ext N) (by omega) fun l L=>⟨fun D=>Za (no 3 l (P.trans L) (by decide) ?_),fun D=>hQ _ _ ⟨L,fun a=>?_⟩⟩,fun J=>hQ _ _ ⟨Ext.refl _,fun a=>?_⟩⟩
    ·unfold Tree.noteE;rw [if_neg (fun a=>a C),if_neg (fun a=>a X),if_neg (fun a=>a Y),if_neg q4,if_neg (fun a=>a hr),if_pos ⟨J,D⟩]
    ·rw [a.2] at D;cases D
    ·rw [a.1] at J;cases J
  rintro _ l ⟨L,aU⟩;have hE:t.noteE c full=0:=by unfold Tree.noteE;rw [if_neg (fun a=>a C),if_neg (fun a=>a X),if_neg (fun a=>a Y),if_neg q4,if_neg (fun a=>a hr),if_neg aU]
  have hN:t.noted c full g=⟨(t.steps g (YK c)).f,(t.steps g (YK c)).keys,c.1⟩:=by unfold Tree.noted;rw [if_pos hE]
  rw [hE,hN] at hk;have hlen:=V.row.len;rw [YV Zch] at hlen;have bE:s.len=(YK c).length:=(Ayf (by decide) hlen).symm;have ao:=N.trans L;have z:=P.trans L;have zz:sz h<=sz h1:=e1.size;have w1:sz h1=sz h+1:=z1;have w3:sz h3=sz h1+1:=z3;have w4:sz h3<=sz B:=e4.size;have bF:sz B<=sz l:=ao.size;have rows:∀ b,s.blk=some b->sz h<=b/\b<sz B:=fun b J=>by have:sz h3<=b/\b<sz B:=V.lt J;omega
  refine Zbd (fun p m=>∃ (i:Nat) (Z:List K4) (t2:Tree) (O2:Nat->Prop),p=((i:Int),())/\i<=(YK c).length/\(YK c).drop i=Z/\Tree.steps g Z t2=Tree.steps g (YK c) t/\ZaC m tb O2 t2/\t2.room Z/\Upd O l m/\Zsl O O2 l m)
    (fun p _=>(YK c).length - p.1.toNat) ⟨0,_,t,O,rfl,Ayg _,rfl,rfl,t5.ext L,hr,Upd.refl _ _,fun j d=> .inl d,fun j d=>d⟩ ?_
  rintro _ m ⟨i,Z,t2,O2,rfl,bG,R,ar,au,aV,hu,v,av⟩ Q hQ;have nO:∀ j,sz h<=j->¬ O j:=fun j d a=>by have:=hO j a;omega
  have old:∀ {j:Nat} {y:Obj},obj l j=some y->¬ O j->obj m j=some y:=fun {j y} d E=>(hu.old j (Zp d) E).trans d;have p6:obj m (sz h)=_:=old (Zj p5 L) (nO _ (Aqo _));have c6:obj m (sz h1)=_:=old (Zj c5 L) (nO _ (by omega));have x6:obj m cb=some x:=old (Zj ae z) af;have w6:sz l<=sz m:=hu.size;dsimp only;refine Zn (fun q=>?_) fun q=>?_
  ·have F:i<(YK c).length:=by omega
   have hg:(YK c)[i]?=some (YK c)[i]:=Axy F;have ax:Z=(YK c)[i]::(YK c).drop (i+1):=by rw [<- R];exact Ayo F
   generalize (YK c)[i]=k at hg ax;subst ax
   have aX:k∉(YK c).drop (i+1):=by
     have:=Zj8 c;rw [<- Ayn i (YK c),List.nodup_append] at this;rw [R] at this;exact (Ayp.1 this.2.1).1
   obtain ⟨aY,aZ⟩:=Zro aV aX;have ay:Row m s 4 ((YK c).flatMap k4L):=(V.row.ext ao).congr fun b o J _ hl=>hu.old b hl (nO _ (rows b (by simp [Sl.blk,J])).1);obtain ⟨b,o,bJ,bK,az,G⟩:=ZbB Zch ay hg (by decide);have v0:=G 0 _ rfl;have v1:=G 1 _ rfl;have v2:=G 2 _ rfl;have v3:=G 3 _ rfl;have ba:IntKind.wrap .i64 ((i:Int)+1)=((i+1:Nat):Int):=wrS F (by omega);refine az rfl (rI v0 (rS v1 (rS v2 (rS v3 (ZJ fun h7 c7 e7 z7=>Zbe c7 fun h8 c8 u8 z8=>?_)))));have e8:Ext m h8:=e7.then u8 fun k hk=>by subst hk;exact Aqo _
   refine rP (Zb (Zj p6 e8) rfl) (Zg (rI (Zb c8 rfl) (rS (Zb c8 rfl) (rS (Zb c8 rfl) (rS (Zb c8 rfl) ?_)))));refine Zpi (k:=k) (au.ext e8) aY fun a O9 t9 u9 g9 bc=>?_;have w8:sz m<=sz h8:=e8.size;have w9:sz h8<=sz a:=u9.size
   have aB:∀ j,j<sz l->¬ O j->¬ O2 j:=fun j d E r=>by
     rcases v j r with g | g
     ·exact E g
     ·omega
   have M:∀ {j:Nat} {y:Obj},obj m j=some y->j<sz l->¬ O j->obj a j=some y:=fun {j y} d hl E=>(u9.old j (show j<sz h8 by omega) (aB j hl E)).trans (Zj d e8);have l0:sz h<sz l:=by omega
   have l1:sz h1<sz l:=by omega
   have p9:=M p6 l0 (nO _ (Aqo _));have x9:=M x6 (Zp (Zj ae z)) af
   have c9:obj a (sz m)=_:=(u9.old (sz m) (Zp c8) (fun r=>by
     rcases v _ r with g | g
     ·have:=hO _ g;omega
     ·omega)).trans c8
   refine ⟨ZZ (Zb p9 rfl),rP (Zb p9 rfl) (Zg ?_)⟩;obtain ⟨mb,bd,S⟩:=t9.look k;refine rM bd (rI (Zb c9 rfl) (rS (Zb c9 rfl) (rS (Zb c9 rfl) (rS (Zb c9 rfl) ?_))));obtain ⟨n,E⟩:=ZAO t2 k
   rcases S with ⟨A,_⟩ | ⟨q9,n9,A,bf,aD,S,aE⟩
   ·rw [E] at A;cases A
   rw [E] at A;cases A;refine S _ ⟨_,rfl,ZZ (Zb p9 rfl),hf a q9 n _ bf x9 fun e T n10 H=>?_⟩;have t10:=aE T _ n10 H
   have aF:∀ j,O9 j->O j\/sz l<=j:=fun j d=>by
     rcases g9 j d with g | g
     ·rcases v j g with g | g
      ·exact .inl g
      ·exact .inr g.1
     ·exact .inr (by omega)
   have bg:obj T (sz h)=_:=(H.old (sz h) (Zp p9) (fun r=>by
     rcases aF _ (aD _ r).1 with g | g
     ·exact nO _ (Aqo _) g
     ·omega)).trans p9
   refine ⟨ZZ (Zb bg rfl),?_⟩;rw [ba];have bh:(t2.make k).on k g=(t2.make k).put k (g n):=by unfold Tree.on;rw [E]
   refine hQ _ _ ⟨i+1,(YK c).drop (i+1),(t2.make k).on k g,O9,rfl,F,rfl,ar,by rw [bh];exact t10,ZDR aZ,?_,?_,?_⟩ (by show (YK c).length - ((i+1:Nat):Int).toNat<(YK c).length - ((i:Nat):Int).toNat;omega)
   ·refine Zm7 (Zm7 (hu.trans (e8.upd O)) u9 fun j d U=>Classical.byContradiction fun r=>aB j d r U) H fun j d hq=>?_
    rcases aF j (aD j hq).1 with g | g
    ·exact g
    ·omega
   ·intro j d
    have bR:sz a<=sz T:=H.size
    rcases g9 j d with g | g
    ·rcases v j g with g | g
     ·exact .inl g
     ·exact .inr (by omega)
    ·exact .inr (by omega)
   ·exact fun j d=>bc j (av j d)
  ·have bj:Z=[]:=by rw [<- R];exact Ayq (by omega)
   subst bj;refine rP (Zb p6 rfl) (rI (Zb c6 rfl) (Zg (au.setLast fun h7 t7 u7=>Za (hk h7 O2 ?_ ?_ ?_))))
   ·rw [<- ar];exact t7
   ·refine Zm7 ((z.upd O).trans hu) u7 fun j d U=>?_
    have bk:sz h<=sz l:=z.size
    rcases v j U with g | g
    ·exact g
    ·omega
   ·have w7:sz m<=sz h7:=u7.size
    have bk:sz h<=sz l:=z.size;refine ⟨fun j d=>?_,av⟩
    rcases v j d with g | g
    ·exact .inl g
    ·exact .inr (by omega)
abbrev ZA5 (c:C8):Obj:= .cells (c8L c).toArray 47 (0,0)
theorem Zvo {c:C8} {cb:Nat} (h:Zf) (q:Nat) (n:Node) (K:Int->Zf->Prop) (d:Zge h q n) (a:obj h cb=some (ZA5 c)) (f:∀ e h',Zge h' q (n.passed c.1 c.2.2.2.2.2.1)->Upd (inN q) h h'->K e h') :
    Zcx (some ⟨q+4,0,none⟩) (some ⟨cb,0,none⟩) K h:=by
  unfold Zcx Ze2;refine Za (Zg (rI (Zb a rfl) (Zg (rI (Zb a rfl) (ZJ fun h1 c1 b k=>?_)))));exact Zv1 (d.ext b) (Zj1 c1 rfl) fun g i j=>Za (f _ g i (ZGg b j))
theorem Zto {c:C8} {cb:Nat} (h:Zf) (q:Nat) (n:Node) (K:Int->Zf->Prop) (d:Zge h q n) (a:obj h cb=some (ZA5 c)) (f:∀ e h',Zge h' q (n.blocked c.1 c.2.2.2.2.2.1)->Upd (inN q) h h'->K e h') :
    ZbG (some ⟨q+4,0,none⟩) (some ⟨cb,0,none⟩) K h:=by
  unfold ZbG Zea;refine Za (Zg (rI (Zb a rfl) (Zg (rI (Zb a rfl) (ZJ fun h1 c1 b k=>?_)))));exact Zty (d.ext b) (Zj1 c1 rfl) fun g i j=>Za (f _ g i (ZGg b j))
def Tree.passed (t:Tree) (c:C8):Tree:=t.noted c true fun n=>n.passed c.1 c.2.2.2.2.2.1
def Tree.blocked (t:Tree) (c:C8):Tree:=t.noted c false fun n=>n.blocked c.1 c.2.2.2.2.2.1
theorem Ztb {O O':Nat->Prop} {h h1 h':Zf} (e:Ext h h1) (g:Zsl O O' h1 h'):Zsl O O' h h':=by
  refine ⟨fun j a=>?_,g.2⟩;have:sz h<=sz h1:=e.size
  rcases g.1 j a with g | g
  ·exact .inl g
  ·exact .inr (by omega)
theorem ZvW {h:Zf} {tb:Nat} {O:Nat->Prop} {t:Tree} (d:ZaC h tb O t) (b:∀ j,O j->j<sz h) {c:C8} (hz:Zhs c) {K:Int->Zf->Prop}
    (f:∀ e h' O',ZaC h' tb O' (t.passed c)->Upd O h h'->Zsl O O' h h'->K e h'):ZbW (some ⟨tb,0,none⟩) c K h:=by
  unfold ZbW Zgf;refine ZJ fun h1 c1 a q=>Za (rI (Zb c1 rfl) (rS (Zb c1 rfl) (rS (Zb c1 rfl) (rS (Zb c1 rfl) (rB (Zb c1 rfl) (rI (Zb c1 rfl) (rL (Zb c1 rfl) ?_)))))))
  exact Zpb (x:=ZA5 c) (cb:=sz h) (g:=fun n=>n.passed c.1 c.2.2.2.2.2.1) (Zvo (c:=c)) (d.ext a) (fun j i=>by have:=b j i;have:sz h<=sz h1:=a.size;omega) c1 (fun k=>by have:=b _ k;omega) (c:=c) hz
    fun l m t2 o p=>Za (f _ l m t2 ((a.upd O).trans o) (Ztb a p))
theorem Ztu {h:Zf} {tb:Nat} {O:Nat->Prop} {t:Tree} (d:ZaC h tb O t) (b:∀ j,O j->j<sz h) {c:C8} (hz:Zhs c) {K:Int->Zf->Prop}
    (f:∀ e h' O',ZaC h' tb O' (t.blocked c)->Upd O h h'->Zsl O O' h h'->K e h'):Zbq (some ⟨tb,0,none⟩) c K h:=by
  unfold Zbq Zft;refine ZJ fun h1 c1 a q=>Za (rI (Zb c1 rfl) (rS (Zb c1 rfl) (rS (Zb c1 rfl) (rS (Zb c1 rfl) (rB (Zb c1 rfl) (rI (Zb c1 rfl) (rL (Zb c1 rfl) ?_)))))))
  exact Zpb (x:=ZA5 c) (cb:=sz h) (g:=fun n=>n.blocked c.1 c.2.2.2.2.2.1) (Zto (c:=c)) (d.ext a) (fun j i=>by have:=b j i;have:sz h<=sz h1:=a.size;omega) c1 (fun k=>by have:=b _ k;omega) (c:=c) hz
    fun l m t2 o p=>Za (f _ l m t2 ((a.upd O).trans o) (Ztb a p))
def Tree.makes:List K4->Tree->Tree
  | [],t=>t
  | k::l,t=>Tree.makes l (t.make k)
def Tree.touchE (t:Tree) (c:C8):Int:=if ZiA c≠0 then ZiA c else if ¬ t.room (YK c) then 3 else 0
def Tree.touched (t:Tree) (c:C8):Tree:=if t.touchE c=0 then t.makes (YK c) else t
theorem ZvU {h:Zf} {tb:Nat} {O:Nat->Prop} {t:Tree} (ht:ZaC h tb O t) (hO:∀ j,O j->j<sz h) {c:C8} (hz:Zhs c) {cs:Sl} (I:Row h cs 7 (c8L c)) (aN:∀ b,cs.blk=some b->¬ O b) {K:Int->Zf->Prop}
    (v:∀ h' O',ZaC h' tb O' (t.touched c)->Upd O h h'->Zsl O O' h h'->K (t.touchE c) h'):Zc7 (some ⟨tb,0,none⟩) cs K h:=by
  have A:cs.len=1:=by have:=I.len;simp [c8L] at this;omega
  have no:∀ e (d:Zf),Ext h d->e≠0->t.touchE c=e->K e d:=fun e d e9 h1 Y=>by
    have:=v d O (by unfold Tree.touched;rw [if_neg (by rw [Y];exact h1)];exact ht.ext e9) (e9.upd _) ⟨fun j f=> .inl f,fun j f=>f⟩;rwa [Y] at this
  unfold Zc7 Zfs;refine Za (Zt (Zbd (fun p r=>Ext h r/\((p=(⟨none,0,0⟩,0,())/\r=h)\/(p.2.1=1/\ZiA c=0/\Own r (sz h) p.1 4 ((YK c).flatMap k4L)))) (fun p _=>(1 - p.2.1).toNat) ⟨Ext.refl _,.inl ⟨rfl,rfl⟩⟩ ?_));rintro ⟨al,i,u⟩ r ⟨he,⟨Z,af⟩ | ⟨Z,hE,ho⟩⟩ Q hQ
  ·injection Z with p1 p2
   injection p2 with p2 p3;subst p1;subst p2;subst af;dsimp only;rw [A];refine YC ?_;obtain ⟨b,o,ai,aj,w,a⟩:=ZbB (α:=C8) (g:=c8L) (n:=7) (fun _=>rfl) (l:=[c]) (by simpa using I) (i:=0) rfl (by decide);have B:∀ {K:Nat->Nat->Prop},K b o->YR cs.ptr 1 0 7 K:=fun {K} v=>by have:=w (K:=K) (m:=0) rfl v;rwa [A] at this
   refine B (rI (a 0 _ rfl) (rS (a 1 _ rfl) (rS (a 2 _ rfl) (rS (a 3 _ rfl) (rB (a 4 _ rfl) (rI (a 5 _ rfl) (rL (a 6 _ rfl) (ZJ fun h1 c1 e1 z1=>Zbe c1 fun Y C u2 z2=>?_))))))));have e2:Ext r Y:=e1.then u2 fun k v=>by subst v;exact Aqo _
   refine rI (Zb C rfl) (rS (Zb C rfl) (rS (Zb C rfl) (rS (Zb C rfl) (rB (Zb C rfl) (rI (Zb C rfl) (rL (Zb C rfl) ?_))))));refine ZlB (c:=c) hz fun s h4 e4 o4=>Za (ZfO (fun J=>Za (no _ h4 (e2.trans e4) J (by unfold Tree.touchE;rw [if_pos J]))) fun J=>?_);rw [if_pos J] at o4;refine o4.row.rd ?_;have hlen:=o4.len;rw [YV Zch] at hlen;have L:(YK c).length=s.len:=Ayf (by decide) hlen;refine ZIa (l:=[]) (Own.nil h4 (sz r) 4) L (by have:=ZmP c;simp only [Ayd];omega) (e2.trans e4).size fun s5 y o5 _ u5=>hQ _ _ ⟨(e2.trans e4).then u5 fun k v=>(by cases v),.inr ⟨rfl,J,o5⟩⟩ (show (1 - IntKind.wrap .i64 (0+1)).toNat<(1 - (0:Int)).toNat by decide)
  dsimp only at Z ho ⊢;subst Z;rw [A];refine Zt (Zg (Zg ?_));have aT:=ZmP c;have t1:=ht.ext he;obtain ⟨ks,M,aq,aU⟩:=t1.keys;refine rL M (Zpx t1 ho.row (Zj8 c) (by omega) fun y G=>?_);have t5:=t1.ext G;have N:ZA 1 (obj y tb)=some (slV ks):=by rw [ZG G t1.lt];exact M
  refine ⟨ZZ N,?_⟩;rw [aq,Yr (by omega) (by omega)];have x:((t.freshN (YK c):Int)>512 - (t.keys.length:Int))↔¬ t.room (YK c):=by unfold Tree.room;omega
  refine Zn (fun q5=>Za (no 3 y (he.trans G) (by decide) ?_)) fun q5=>?_
  ·unfold Tree.touchE;rw [if_neg (fun d=>d hE),if_pos (x.1 q5)]
  have hr:t.room (YK c):=Classical.byContradiction fun d=>q5 (x.2 d);have P:t.touchE c=0:=by unfold Tree.touchE;rw [if_neg (fun d=>d hE),if_neg (fun d=>d hr)]
  have hN:t.touched c=t.makes (YK c):=by unfold Tree.touched;rw [if_pos P]
  rw [P,hN] at v;have hlen:=ho.row.len;rw [YV Zch] at hlen;have L:al.len=(YK c).length:=(Ayf (by decide) hlen).symm;have D:=he.trans G;have w5:sz h<=sz y:=D.size
  have rows:∀ b,al.blk=some b->sz h<=b/\b<sz y:=fun b hb=>by
    have d:sz h<=b/\b<sz r:=ho.lt hb;have:sz r<=sz y:=G.size;omega
  refine Zbd (fun p r=>∃ (i:Nat) (H:List K4) (t2:Tree) (O2:Nat->Prop),p=((i:Int),())/\i<=(YK c).length/\(YK c).drop i=H/\Tree.makes H t2=Tree.makes (YK c) t/\ZaC r tb O2 t2/\t2.room H/\Upd O y r/\Zsl O O2 y r)
    (fun p _=>(YK c).length - p.1.toNat) ⟨0,_,t,O,rfl,Ayg _,rfl,rfl,t5,hr,Upd.refl _ _,fun j f=> .inl f,fun j f=>f⟩ ?_
  rintro _ R ⟨i,H,t2,O2,rfl,aW,E,S,T,av,hu,F,U⟩ Q hQ;have nO:∀ j,sz h<=j->¬ O j:=fun j f d=>by have:=hO j d;omega
  have w6:sz y<=sz R:=hu.size;dsimp only;refine Zn (fun q=>?_) fun q=>?_
  ·have z:i<(YK c).length:=by omega
   have hg:(YK c)[i]?=some (YK c)[i]:=Axy z;have V:H=(YK c)[i]::(YK c).drop (i+1):=by rw [<- E];exact Ayo z
   generalize (YK c)[i]=k at hg V;subst V
   have aw:k∉(YK c).drop (i+1):=by
     have:=Zj8 c;rw [<- Ayn i (YK c),List.nodup_append] at this;rw [E] at this;exact (Ayp.1 this.2.1).1
   obtain ⟨ax,ay⟩:=Zro av aw;have W:Row R al 4 ((YK c).flatMap k4L):=(ho.row.ext G).congr fun b o hb _ hl=>hu.old b hl (nO _ (rows b (by simp [Sl.blk,hb])).1);obtain ⟨b,o,ai,aj,w,a⟩:=ZbB Zch W hg (by decide);have az:IntKind.wrap .i64 ((i:Int)+1)=((i+1:Nat):Int):=wrS z (by omega);refine w rfl (rI (a 0 _ rfl) (rS (a 1 _ rfl) (rS (a 2 _ rfl) (rS (a 3 _ rfl) (ZJ fun h7 c7 e7 z7=>Zbe c7 fun h8 c8 u8 z8=>?_)))));have e8:Ext R h8:=e7.then u8 fun k v=>by subst v;exact Aqo _
   refine Zg (rI (Zb c8 rfl) (rS (Zb c8 rfl) (rS (Zb c8 rfl) (rS (Zb c8 rfl) ?_))));refine Zpi (k:=k) (T.ext e8) ax fun d O9 t9 u9 g9 aC=>?_;have w8:sz R<=sz h8:=e8.size;have w9:sz h8<=sz d:=u9.size;rw [az];refine hQ _ _ ⟨i+1,(YK c).drop (i+1),t2.make k,O9,rfl,z,rfl,S,t9,ay,Zm7 (hu.trans (e8.upd O)) u9 fun j f aD=>?_,?_,?_⟩ (by show (YK c).length - ((i+1:Nat):Int).toNat<(YK c).length - ((i:Nat):Int).toNat;omega)
   ·rcases F j aD with g | g
    ·exact g
    ·omega
   ·intro j f
    rcases g9 j f with g | g
    ·rcases F j g with g | g
     ·exact .inl g
     ·exact .inr (by omega)
    ·exact .inr (by omega)
   ·exact fun j f=>aC j (U j f)
  ·have aE:H=[]:=by rw [<- E];exact Ayq (by omega)
   subst aE;have X:t2=Tree.makes (YK c) t:=S;refine Za (v R O2 (by rw [<- X];exact T) ((D.upd O).trans hu) (Ztb D ⟨F,U⟩))
abbrev sA:ByteArray:=ByteArray.mk #[97]
abbrev F12:=ByteArray × ByteArray × Bool × Int × Int × ByteArray × Int × Int × Int × Bool × Int × Bool × Unit
abbrev B7:=ByteArray × Int × Int × Int × Int × Int × Int × Unit
def b7L (r:B7):List Value:=[.string r.1,.int .u8 r.2.1,iv r.2.2.1,iv r.2.2.2.1,iv r.2.2.2.2.1,iv r.2.2.2.2.2.1,iv r.2.2.2.2.2.2.1]
abbrev R5:=Sl × Sl × Sl × Sl × Sl × Unit
def r5L (r:R5):List Value:=[slV r.1,slV r.2.1,slV r.2.2.1,slV r.2.2.2.1,slV r.2.2.2.2.1]
theorem Zxj {h h':Zf} {base:Nat} {s:Sl} {size:Nat} {vs:List Value} (ho:Own h base s size vs) (e:Ext h h'):Own h' base s size vs:=ho.congr fun b _ hl _=>e.old b hl
theorem Zsj {h h':Zf} {base x:Nat} {s:Sl} {size:Nat} {vs:List Value} (ho:Own h base s size vs) (u:Upd (· = x) h h') (a:x<base):Own h' base s size vs:=ho.congr fun b _ hl c=>u.old b hl (by omega)
theorem ZGn {h:Zf} {b:Nat} {l:List Value} {t:TypeId} (a:obj h b=some (.cells l.toArray t (0,0))) (c:List Value) {o:Nat} {vs:List Value} {K:Zf->Prop}
    (d:∀ h',obj h' b=some (.cells c.toArray t (0,0))->Upd (· = b) h h'->sz h'=sz h->K h') (ho:Nat.ble (o+vs.length) l.length=true:=by rfl) (hv:vs.all Zr=true:=by rfl) (e:ZeR o vs l=c:=by rfl):sts h b o vs K:=by
  rw [ZoW (by rw [a,Zi0,decide_eq_true_eq];exact Awt ho) hv];refine d _ ?_ (ZfI (Upd.refl _ _) (.inr rfl)) Ziq;rw [Zle,if_pos rfl,a,Zey,e]
abbrev ZBs (r:R5) (g:Int):List Value:=r5L r++[iv g]
abbrev ZoX (r:R5) (g:Int):Obj:= .cells (ZBs r g).toArray 108 (0,0)
abbrev r0:R5:=(⟨none,0,0⟩,⟨none,0,0⟩,⟨none,0,0⟩,⟨none,0,0⟩,⟨none,0,0⟩,())
theorem ZyD {h:Zf} {K:Option Addr->Zf->Prop} (a:∀ h',obj h' (sz h)=some (ZoX r0 0)->Ext h h'->sz h'=sz h+1->K (some ⟨sz h,0,none⟩) h'):ZdX K h:=by
  unfold ZdX Zgq;exact ZJ fun h1 c1 b c=>a h1 c1 b c
abbrev wL (w:W3):List Value:=[.int .u64 w.1,.int .u64 w.2.1,.bool w.2.2.1]
theorem ZOf (w:W3) (h1:0<=w.1/\w.1<18446744073709551616) {c:Int} (V:c≠0) (D : -9223372036854775808<=c) (E:c<=9223372036854775807) (up:Bool):∃ (n:Int) (ok:Bool),∀ {K:Int->Bool->Zf->Prop} {h:Zf},(∀ h',Ext h h'->K n ok h')->Zdd w c up K h:=by
  obtain ⟨d,hd,F,G⟩:=ZsP c;have C:=F V D E;have H:0<=Int.tmod w.1 d:=Int.tmod_nonneg _ h1.1;have I:Int.tmod w.1 d<d:=Int.tmod_lt_of_pos _ (by omega);obtain ⟨q,rem,hq,hdiv⟩:=ZBi (lo:=w.2.1) H I hd.2;generalize J:(w.2.2.1 !=decide (c<0))=B;generalize L:IntKind.wrap .u64 (Int.tdiv w.1 d)=hi
  have last:∀ (a b:Int) (f:Bool),∃ (n:Int) (ok:Bool),∀ {K:Int->Bool->Zf->Prop} {h r:Zf} {wb:Nat},Ext h r->sz h<=wb->obj r wb=some (.cells (wL (a,b,f,())).toArray 320 (0,0))->(∀ h',Ext h h'->K n ok h') ->
      Zfm (σ:=Unit) (fun M i=>ldI i wb 0 .u64 fun t26=>ldI i wb (0+1) .u64 fun t27=>ldB i wb (0+2) fun t28=>YW (t26,t27,t28,()) (fun t29 t30 t=>Zd t29 fun t32=>Zq t30 fun t33=>K t32 t33 t) i) (fun m =>
       ldI r wb 0 .u64 fun t21=>ldI r wb (0+1) .u64 fun t22=>Zm (bif t21 ==0 then (bif t22 ==0 then true else false) else false) (st r wb (0+2) (.bool false) fun u=>m (()) u) (m (()) r)):=fun a b f=>by
    by_cases z:(bif a ==0 then (bif b ==0 then true else false) else false)=true
    ·obtain ⟨n,ok,N⟩:=Znx (a,b,false,())
     refine ⟨n,ok,fun {K h r wb} e o j l=>XV (rI (Zb j rfl) (rI (Zb j rfl) (Zl z (Zbf j (show 0+2<3 by decide) rfl fun W v O X=>rI (Zb v rfl) (rI (Zb v rfl) (rB (Zb v rfl) (N fun x y=>Za (Zc (l x ?_)))))))))⟩;exact (e.then O fun k l=>by subst l;exact o).trans y
    ·obtain ⟨n,ok,N⟩:=Znx (a,b,f,())
     exact ⟨n,ok,fun {K h r wb} e o j l=>XV (rI (Zb j rfl) (rI (Zb j rfl) (Zi (by simpa using z) (rI (Zb j rfl) (rI (Zb j rfl) (rB (Zb j rfl) (N fun x y=>Za (Zc (l x (e.trans y))))))))))⟩
  have start:∀ {K:Int->Bool->Zf->Prop} {h:Zf},(∀ (g:Zf) (wb:Nat),Ext h g->sz h<=wb->obj g wb=some (.cells (wL (hi,q,B,())).toArray 320 (0,0)) ->
      Zfm (σ:=Unit) (fun s p=>Zfm (σ:=Unit) (fun M i=>ldI i wb 0 .u64 fun t26=>ldI i wb (0+1) .u64 fun t27=>ldB i wb (0+2) fun t28=>YW (t26,t27,t28,()) (fun t29 t30 t=>Zd t29 fun t32=>Zq t30 fun t33=>K t32 t33 t) i) (fun m =>
       ldI p wb 0 .u64 fun t21=>ldI p wb (0+1) .u64 fun t22=>Zm (bif t21 ==0 then (bif t22 ==0 then true else false) else false) (st p wb (0+2) (.bool false) fun u=>m (()) u) (m (()) p))) (fun A =>
       Zm (rem !=0) (ldB g wb (0+2) fun t15=>Zm (t15 !=up) (ldI g wb (0+1) .u64 fun t16=>Zu (Int.toNat 0<=1) <| Zd (Zr9 t16 1 0) fun lo=>Zd (ZrZ t16 1 0) fun carry=>ldI g wb 0 .u64 fun t17=>sts g wb 0 [.int .u64 (IntKind.wrap .u64 (t17+carry)),.int .u64 lo] fun P=>A (()) P) (A (()) g)) (A (()) g)))->Zdd w c up K h:=fun {K h} Y=>by
    unfold Zdd ZiS;refine ZJ fun h1 c1 Q z1=>Za (G (Za (rI (Zb c1 rfl) ⟨C,rI (Zb c1 rfl) (hdiv ⟨ZZ (Zb c1 rfl),Za (Za (rI (Zb c1 rfl) ⟨C,rB (Zb c1 rfl) (ZJ fun h2 Z R z2=>⟨ZZ (Zb (Zj c1 R) rfl),ZZ (Zb (Zj c1 R) rfl),?_⟩)⟩))⟩)⟩)));rw [J,L];exact Zbe Z fun h3 c3 u3 z3=>Y h3 _ ((Q.trans R).then u3 fun k l=>by subst l;exact Q.size) Q.size c3
  by_cases r0:rem=0
  ·obtain ⟨n,ok,hl⟩:=last hi q B
   exact ⟨n,ok,fun {K h} l=>start fun g wb e o j=>XV (Zi (by rw [r0];rfl) (hl e o j l))⟩
  ·by_cases U:(B !=up)=true
   ·obtain ⟨n,ok,hl⟩:=last (IntKind.wrap .u64 (hi+ZrZ q 1 0)) (Zr9 q 1 0) B
    refine ⟨n,ok,fun {K h} l=>start fun g wb e o j=>XV (Zl (by simpa using r0) (rB (Zb j rfl) (Zl U (rI (Zb j rfl) ⟨by decide,Za (Za (rI (Zb j rfl) (ZGn j (wL (IntKind.wrap .u64 (hi+ZrZ q 1 0),Zr9 q 1 0,B,())) fun af S T ag=>hl ?_ o S l)))⟩))))⟩;exact e.then T fun k l=>by subst l;exact o
   ·obtain ⟨n,ok,hl⟩:=last hi q B
    exact ⟨n,ok,fun {K h} l=>start fun g wb e o j=>XV (Zl (by simpa using r0) (rB (Zb j rfl) (Zi (by simpa using U) (hl e o j l))))⟩
theorem Zsa (a b:Int) {c:Int} (d : -9223372036854775808<=c) (f:c<=9223372036854775807) (up:Bool):∃ (n e:Int),∀ {K:Int->Int->Zf->Prop} {h:Zf},(∀ h',Ext h h'->K n e h')->ZcS a b c up K h:=by
  by_cases q:c=0
  ·refine ⟨0,9,fun {K h} g=>?_⟩
   unfold ZcS ZhE;exact Za (Za (Zl (by rw [q];rfl) (Za (Za (g h (Ext.refl _))))))
  ·obtain ⟨w,w1,p,j⟩:=Zo7 a b
   obtain ⟨n,ok,k⟩:=ZOf w w1 q d f up;refine ⟨if ok=true then n else 0,if ok=true then 0 else 8,fun {K h} g=>?_⟩;unfold ZcS ZhE;have i:∀ {K:Int->Bool->Zf->Prop} {h:Zf},(∀ h',Ext h h'->K n ok h')->Zdd (w.1,w.2.1,w.2.2.1,()) c up K h:=k;exact Za (Za (Zi (by simpa using q) (j fun h1 l=>i fun m o=>Zm8 (Za (Za (g m (l.trans o)))))))
abbrev Pc:=Int × Bool × Int × Int × Int × Unit
abbrev pcL (p:Pc):List Value:=[iv p.1,.bool p.2.1,iv p.2.2.1,iv p.2.2.2.1,iv p.2.2.2.2.1]
abbrev pcO (p:Pc):Obj:= .cells (pcL p).toArray 256 (0,0)
theorem ZyG {count queue:Int} (h1:1<=count/\count<=1099511627776) (d:0<=queue/\queue<=3600000000) {K:Option Addr->Int->Zf->Prop} {h:Zf} (a:∀ h',obj h' (sz h)=some (pcO (0,false,count,queue,0,()))->Ext h h'->sz h'=sz h+1->K (some ⟨sz h,0,none⟩) 0 h'):Zf4 count queue K h:=by
  unfold Zf4 ZjP;exact Za (Zn (fun q=>by omega) fun _=>Zn (fun q=>by omega) fun _=>Zn (fun q=>by omega) fun _=>Zn (fun q=>by omega) fun _=>ZJ fun h1 c1 b c=>Za (a h1 c1 b c))
theorem ZEW (count a:Int):∃ cost err:Int,∀ {K:Int->Int->Zf->Prop} {h:Zf},(∀ h',Ext h h'->K cost err h')->Zai count a K h:=by
  by_cases d:count<1
  ·exact ⟨0,2,fun {K h} b=>by unfold Zai ZbR;exact Za (Za (Zl (decide_eq_true d) (Za (Za (b h (Ext.refl _))))))⟩
  by_cases f:count>1099511627776
  ·exact ⟨0,2,fun {K h} b=>by unfold Zai ZbR;exact Za (Za (Zi (decide_eq_false d) (Zl (decide_eq_true f) (Za (Za (b h (Ext.refl _)))))))⟩
  by_cases g:a<1
  ·exact ⟨0,2,fun {K h} b=>by unfold Zai ZbR;exact Za (Za (Zi (decide_eq_false d) (Zi (decide_eq_false f) (Zl (decide_eq_true g) (Za (Za (b h (Ext.refl _))))))))⟩
  by_cases i:a>1099511627776
  ·exact ⟨0,2,fun {K h} b=>by unfold Zai ZbR;exact Za (Za (Zi (decide_eq_false d) (Zi (decide_eq_false f) (Zi (decide_eq_false g) (Zl (decide_eq_true i) (Za (Za (b h (Ext.refl _)))))))))⟩
  obtain ⟨n,e,hm⟩:=Zsa count 1000000 (c:=a) (by omega) (by omega) true;exact ⟨n,e,fun {K h} b=>by unfold Zai ZbR;exact Za (Za (Zi (decide_eq_false d) (Zi (decide_eq_false f) (Zi (decide_eq_false g) (Zi (decide_eq_false i) (hm fun h1 j=>Za (Za (b h1 j))))))))⟩
theorem Zry {p:Pc} {b:Nat} {h:Zf} (a:obj h b=some (pcO p)) {K:Int->Bool->Zf->Prop} (c:K p.1 p.2.1 h):X3 (some ⟨b,0,none⟩) K h:=by
  unfold X3 Zfa;exact Za (Zg (rI (Zb a rfl) (Zg (rB (Zb a rfl) (Za (Zc c))))))
theorem Zo8 {p:Pc} {b:Nat} {h:Zf} (a:obj h b=some (pcO p)) {K:Int->Zf->Prop} (c:K p.2.2.1 h):Za5 (some ⟨b,0,none⟩) K h:=by
  unfold Za5 Zfb;exact Za (Zi rfl (Zg (rI (Zb a rfl) (Za c))))
theorem ZEu (p:Pc) (at_ cost:Int):∃ d:Int,∀ {b:Nat} {h:Zf} {J:Int × Unit->Zf->Prop},obj h b=some (pcO p)->(∀ h',Ext h h'->J (d,()) h')->Ze (some ⟨b,0,none⟩) fun f g=>X3 (some ⟨f,g,none⟩) (fun t21 t22 e=>Zd t21 fun t24=>Zq t22 fun some_=>Zm some_ (
      newC e [iv t24,iv cost] 3 fun i j=>Zde ⟨some ⟨i,0,none⟩,2,2⟩ (fun t27 l=>Zd (Zih at_ t27) fun c=>J (c,()) l) j) (J (at_,()) e)) h:=by
  obtain ⟨a,s,rest⟩:=p;obtain ⟨v,hv⟩:=ZuA a cost
  cases s with
  | true=>exact ⟨Zih at_ v,fun {b h J} m o=>Zg (Zry m (Za (Zc (YC (ZJ fun h1 c1 q r=>hv (ZBx (k:=2) (n:=1) c1 rfl (by decide)) (Za (o h1 q)))))))⟩
  | false=>exact ⟨at_,fun {b h J} m o=>Zg (Zry m (Za (Zc (Zt (o h (Ext.refl _))))))⟩
def Pc.went (p:Pc) (at_:Int):Option (Int × Bool)->Pc
  | none=>p
  | some (a,ok)=>if ok=true then (a,true,p.2.2.1,p.2.2.2.1,at_,()) else (p.1,p.2.1,p.2.2.1,p.2.2.2.1,at_,())
def ZHw (p:Pc) (at_ count a:Int) (R:Int × Bool × Int):Prop:=∀ {b:Nat} {h:Zf} {K:Int->Bool->Int->Zf->Prop},obj h b=some (pcO p)->(∀ h',Ext h h'->K R.1 R.2.1 R.2.2 h')->Z4 (some ⟨b,0,none⟩) at_ count a K h
def ZHx (p:Pc) (at_ count a:Int) (R:Int × Bool × Int) (g:Option (Int × Bool)):Prop:=∀ {b cb:Nat} {h:Zf} {K:Int->Bool->Int->Zf->Prop},obj h b=some (pcO p)->obj h cb=some (.cells [iv at_].toArray 3 (0,0))->cb≠b->(∀ h',obj h' b=some (pcO (p.went at_ g))->Upd (· = b) h h'->K R.1 R.2.1 R.2.2 h')->Z3 (some ⟨b,0,none⟩) at_ count a (some ⟨cb,0,none⟩,()) K h
theorem Ztr (p:Pc) (at_ count f:Int):∃ R g,ZHw p at_ count f R/\ZHx p at_ count f R g:=by
  obtain ⟨cost,err,c⟩:=ZEW count f;obtain ⟨a,l⟩:=ZEu p at_ cost
  have bad:∀ R:Int × Bool × Int,(∀ {b:Nat} {h k:Zf} {K:Int->Bool->Int->Zf->Prop} {X:Prop},obj k b=some (pcO p)->Ext h k->K R.1 R.2.1 R.2.2 k->(Zm (decide (at_<0)) (Zd 0 fun t7=>Zd 2 fun t8=>K t7 false t8 k) (Zm (decide (at_>1152921504606846976)) (Zd 0 fun t9=>Zd 2 fun t10=>K t9 false t10 k) (Zq (err !=0) fun t11=>Zm t11 (Zd 0 fun t12=>Zd 2 fun t13=>K t12 false t13 k) (
        Ze (some ⟨b,0,none⟩) fun b o=>ldI k b (o+4) .i64 fun t14=>Zq (decide (at_<t14)) fun t15=>Zm t15 (Zd 0 fun t16=>Zd 7 fun t17=>K t16 false t17 k) X)))))->ZHw p at_ count f R/\ZHx p at_ count f R none:=fun R B=>by
    refine ⟨fun {b h K} d i=>?_,fun {b cb h K} d q E i=>?_⟩
    ·unfold Z4 YA
     exact Za (Za (Zi rfl (c fun h1 j=>Za (Za (B (Zj d j) j (i h1 j))))))
    ·unfold Z3 Y0
     exact Za (Za (Zi rfl (c fun h1 j=>Za (Za (B (Zj d j) j (i h1 (Zj d j) (j.upd _)))))))
  by_cases m:at_<0
  ·exact ⟨(0,false,2),none,bad (0,false,2) fun {b h k K X} d e i=>Zl (decide_eq_true m) (Za (Za i))⟩
  by_cases r:at_>1152921504606846976
  ·exact ⟨(0,false,2),none,bad (0,false,2) fun {b h k K X} d e i=>Zi (decide_eq_false m) (Zl (decide_eq_true r) (Za (Za i)))⟩
  by_cases v:err=0
  case neg=>exact ⟨(0,false,2),none,bad (0,false,2) fun {b h k K X} d e i=>Zi (decide_eq_false m) (Zi (decide_eq_false r) (Zc (Zl (by simpa using v) (Za (Za i)))))⟩
  by_cases w:at_<p.2.2.2.2.1
  ·exact ⟨(0,false,7),none,bad (0,false,7) fun {b h k K X} d e i=>Zi (decide_eq_false m) (Zi (decide_eq_false r) (Zc (Zi (by rw [v];rfl) (Zg (rI (Zb d rfl) (Zc (Zl (decide_eq_true w) (Za (Za i)))))))))⟩
  have t:(err !=0)=false:=by rw [v];rfl
  generalize u:decide (IntKind.wrap .i64 (a - at_)<=p.2.2.2.1)=ok;refine ⟨(if ok=true then IntKind.wrap .i64 (a - at_) else 0,ok,0),some (a,ok),fun {b h K} d i=>?_,fun {b cb h K} d q E i=>?_⟩
  ·unfold Z4 YA
   refine Za (Za (Zi rfl (c fun h1 j=>Za (Za (Zi (decide_eq_false m) (Zi (decide_eq_false r) (Zc (Zi t (Zg (rI (Zb (Zj d j) rfl) (Zc (Zi (decide_eq_false w) (Za (Zls (fun (s:Int × Unit) n=>s=(a,())/\Ext h n) ?_ fun Q x=>l (Zj d j) fun y z=>x _ _ ⟨rfl,j.trans z⟩))))))))))))));rintro _ n ⟨rfl,ex⟩;refine Zg (rI (Zb (Zj d ex) rfl) (Zc ?_));unfold Zdp ZdD;have A:decide (IntKind.wrap .i64 ((a,()).1 - at_)<=p.2.2.2.1)=ok:=u;rw [A];have:=i n ex
   cases ok with
   | true=>exact Zi rfl (Za (Za this))
   | false=>exact Zl rfl (Za (Za this))
  ·unfold Z3 Y0
   refine Za (Za (Zi rfl (c fun h1 j=>Za (Za (Zi (decide_eq_false m) (Zi (decide_eq_false r) (Zc (Zi t (Zg (rI (Zb (Zj d j) rfl) (Zc (Zi (decide_eq_false w) (Za (Zls (fun (s:Int × Unit) n=>s=(a,())/\Ext h n) ?_ fun Q x=>l (Zj d j) fun y z=>x _ _ ⟨rfl,j.trans z⟩))))))))))))));rintro _ n ⟨rfl,ex⟩;refine Zg (rI (Zb (Zj d ex) rfl) (Zc ?_));unfold Zg8 Zhk;have A:decide (IntKind.wrap .i64 ((a,()).1 - at_)<=p.2.2.2.1)=ok:=u;rw [A];refine Zg (rI (Zb (Zj q ex) rfl) (Zg (Zbf (Zj d ex) (show 0+4<5 by decide) rfl fun y C D H=>?_)))
   cases ok with
   | true =>
     refine YC (Zg (ZGn C (pcL (a,true,p.2.2.1,p.2.2.2.1,at_,())) fun h3 F G z3=>Zi rfl (Za (Za (i h3 ?_ ?_)))))
     ·have e:p.went at_ (some (a,true))=(a,true,p.2.2.1,p.2.2.2.1,at_,()):=by simp [Pc.went]
      rw [e];exact F
     ·exact ((ex.upd _).trans D).trans G
   | false =>
     refine Zt (Zl rfl (Za (Za (i y ?_ ?_))))
     ·have e:p.went at_ (some (a,false))=(p.1,p.2.1,p.2.2.1,p.2.2.2.1,at_,()):=by simp [Pc.went]
      rw [e];exact C
     ·exact (ex.upd _).trans D
theorem ZuB (p:Pc) (at_ count:Int):∃ R:Int × Bool × Int,∀ {b:Nat} {h:Zf} {K:Int->Bool->Int->Zf->Prop},obj h b=some (pcO p)->(∀ h',Ext h h'->K R.1 R.2.1 R.2.2 h')->ZcC (some ⟨b,0,none⟩) at_ count K h:=by
  obtain ⟨R,g,c,_⟩:=Ztr p at_ count p.2.2.1;refine ⟨R,fun {b h K} a d=>?_⟩;unfold ZcC Zfc;exact Za (Za (Zo8 a (c a fun h1 e=>Za (Zc (Za (d h1 e))))))
theorem ZuC (p:Pc) (at_ count a:Int):∃ (R:Int × Bool × Int) (e:Pc),∀ {b:Nat} {h:Zf} {K:Int->Bool->Int->Zf->Prop},obj h b=some (pcO p)->(∀ h',obj h' b=some (pcO e)->Upd (· = b) h h'->K R.1 R.2.1 R.2.2 h')->Zb4 (some ⟨b,0,none⟩) at_ count a K h:=by
  obtain ⟨R,g,_,f⟩:=Ztr p at_ count a;refine ⟨R,p.went at_ g,fun {b h K} c i=>?_⟩;unfold Zb4 Zgt ZeJ ZgN;refine Za (Za (ZJ fun h1 c1 d m=>f (Zj c d) c1 (by have:=Zp c;simp only [YO];omega) fun j k l=>Za (Zc (Za (i j k ((d.upd _).trans l))))))
theorem ZBW (p:Pc) (at_ count:Int):∃ d:Pc,∀ {b:Nat} {h:Zf} {K:Int->Bool->Int->Zf->Prop},obj h b=some (pcO p)->(∀ h' w ok e,obj h' b=some (pcO d)->Upd (· = b) h h'->K w ok e h')->ZdY (some ⟨b,0,none⟩) at_ count K h:=by
  obtain ⟨R,g,_,f⟩:=Ztr p at_ count p.2.2.1;refine ⟨p.went at_ g,fun {b h K} a i=>?_⟩;unfold ZdY Zgs ZeJ ZgN;refine Za (Za (Zo8 a (ZJ fun h1 c1 c m=>f (Zj a c) c1 (by have:=Zp a;simp only [YO];omega) fun j k l=>Za (Zc (Za (i j _ _ _ k ((c.upd _).trans l)))))))
theorem Zv0 {p:Pc} {b:Nat} {h:Zf} {K:Option Addr->Zf->Prop} (a:obj h b=some (pcO p)) (c:∀ h',obj h' (sz h)=some (pcO p)->Ext h h'->sz h'=sz h+1->K (some ⟨sz h,0,none⟩) h'):ZcD (some ⟨b,0,none⟩) K h:=by
  unfold ZcD Zfd;refine Zi rfl (Zg (rI (Zb a rfl) (rB (Zb a rfl) (rI (Zb a rfl) (rI (Zb a rfl) (rI (Zb a rfl) (ZJ fun h1 c1 d e=>Zbe c1 fun f g i j=>c f g (d.then i fun k c=>by subst c;exact Aqo _) (j.trans e))))))))
abbrev Wm:=Int × Int × Int × Int × Int × Int × Int × Unit
abbrev wmL (w:Wm):List Value:=[iv w.1,iv w.2.1,iv w.2.2.1,iv w.2.2.2.1,iv w.2.2.2.2.1,iv w.2.2.2.2.2.1,iv w.2.2.2.2.2.2.1]
abbrev wmO (w:Wm):Obj:= .cells (wmL w).toArray 260 (0,0)
def Wm.new (count a:Int):Wm:=(count,a,IntKind.wrap .i64 (Int.tdiv (IntKind.wrap .i64 (IntKind.wrap .i64 (a*count)+1)) 2),IntKind.wrap .i64 (a*count),0, -1,0,())
theorem ZyB {count a:Int} (h1:1<=count/\count<=1099511627776) (e:1<=a/\a<=3600) {K:Option Addr->Int->Zf->Prop} {h:Zf} (b:∀ h',obj h' (sz h)=some (wmO (Wm.new count a))->Ext h h'->sz h'=sz h+1->K (some ⟨sz h,0,none⟩) 0 h'):Zf1 count a K h:=by
  unfold Zf1 ZjG;exact Za (Zn (fun q=>by omega) fun _=>Zn (fun q=>by omega) fun _=>Zn (fun q=>by omega) fun _=>Zn (fun q=>by omega) fun _=>Za ⟨by decide,ZJ fun h1 c1 c d=>Za (b h1 c1 c d)⟩)
theorem Zok {w:Wm} {b:Nat} {h:Zf} {K:Option Addr->Zf->Prop} (a:obj h b=some (wmO w)) (c:∀ h',obj h' (sz h)=some (wmO w)->Ext h h'->sz h'=sz h+1->K (some ⟨sz h,0,none⟩) h'):Za0 (some ⟨b,0,none⟩) K h:=by
  unfold Za0 ZeY;refine Zi rfl (Zg (rI (Zb a rfl) (rI (Zb a rfl) (rI (Zb a rfl) (rI (Zb a rfl) (rI (Zb a rfl) (rI (Zb a rfl) (rI (Zb a rfl) (ZJ fun h1 c1 d e=>Zbe c1 fun f g i j=>c f g (d.then i fun k c=>by subst c;exact Aqo _) (j.trans e))))))))))
def ZGN (n:Int):Bool:=decide (0<=n)&&decide (n<=4611686018427387904)
theorem ZAL {n:Int} {K:Bool->Zf->Prop} {h:Zf} (a:K (ZGN n) h):Zhw n K h:=by
  unfold Zhw ZjF;unfold ZGN at a;refine Zn (fun q=>Zc ?_) fun q=>?_
  ·rw [decide_eq_true (show 0<=n from q),Aqa] at a;exact a
  ·rw [decide_eq_false (show ¬ 0<=n from q),Aqb] at a;exact a
def ZfW (w:Wm) (at_:Int) (l:List Int):Int:=if at_<0 then 2 else if at_>1152921504606846976 then 2 else if l.all ZGN=false then 2 else if at_<w.2.2.2.2.2.2.1 then 7 else 0
theorem ZlI {w:Wm} {b:Nat} {h:Zf} (r:obj h b=some (wmO w)) {at_:Int} {l:List Int} (hl:l.length<=100) {s:Sl} (hs:Row h s 1 (l.map iv)) {K:Int->Zf->Prop} (a:K (ZfW w at_ l) h):ZaZ (some ⟨b,0,none⟩) at_ s K h:=by
  unfold ZaZ ZeU;unfold ZfW at a;have t:s.len=l.length:=by have:=hs.len;simp at this;omega
  refine Za (Zi rfl (Zn (fun q=>Za ?_) fun q=>Zn (fun g=>Za ?_) fun g=>?_))
  ·rw [if_pos q] at a;exact a
  ·rw [if_neg q,if_pos g] at a;exact a
  rw [if_neg q,if_neg g] at a;refine Zbd (fun p o=>∃ i:Nat,p=((i:Int),())/\i<=l.length/\o=h/\(l.take i).all ZGN=true) (fun p _=>l.length - p.1.toNat) ⟨0,rfl,Ayg _,rfl,rfl⟩ ?_;rintro _ o ⟨i,rfl,u,j,k⟩ Q y;subst j;dsimp only;refine Zn (fun z=>?_) fun z=>?_
  ·have c:i<l.length:=by omega
   have f:l[i]?=some l[i]:=Axy c;generalize l[i]=x at f;refine hs.idx (n:=i) (v:=iv x) rfl (by rw [Awy,f];rfl) fun A B _ m=>⟨x,m,Za (ZAL ⟨fun d=>Za ?_,fun d=>?_⟩)⟩
   ·have:l.all ZGN=false:=List.all_eq_false.2 ⟨x,Axo f,by simpa using d⟩
    rw [if_pos this] at a;exact a
   ·rw [wrS c (by omega)]
    refine y _ _ ⟨i+1,rfl,c,rfl,?_⟩ (by show l.length - ((i+1:Nat):Int).toNat<l.length - ((i:Nat):Int).toNat;omega);rw [Aym,f,Ayr,k];simpa using d
  ·have e:l.take i=l:=Awd (by omega)
   rw [e] at k;rw [if_neg (by rw [k];decide)] at a;refine Zg (rI (Zb r rfl) (Zn (fun d=>Za ?_) fun d=>Za ?_))
   ·rw [if_pos d] at a;exact a
   ·rw [if_neg d] at a;exact a
theorem ZEA (w:Wm) (at_ past:Int):∃ tokens second:Int,∀ {b:Nat} {h:Zf} {K:Int->Int->Zf->Prop},obj h b=some (wmO w)->(∀ h',Ext h h'->K tokens second h')->XY (some ⟨b,0,none⟩) at_ past K h:=by
  generalize l:IntKind.wrap .i64 (at_ - Int.tmod at_ 1000000)=sec
  by_cases q1:sec=w.2.2.2.2.2.1
  ·refine ⟨w.2.2.2.2.1,sec,fun {b h K} a H=>?_⟩
   unfold XY ZcF;refine Za (Za ⟨by decide,Za ?_⟩);rw [l];exact Zg (rI (Zb a rfl) (Zl (by simpa using q1) (Zg (rI (Zb a rfl) (Za (Za (H h (Ext.refl _))))))))
  have I:(sec ==w.2.2.2.2.2.1)=false:=by simpa using q1
  have pre:∀ (T:Int),(∀ {b:Nat} {h:Zf} {J:Int × Unit->Zf->Prop},obj h b=some (wmO w)->(∀ h',Ext h h'->J (T,()) h') ->
      Ze (some ⟨b,0,none⟩) fun L M=>ldI h L (M+5) .i64 fun t14=>Zq (decide (t14<0)) fun t15=>Zm t15 (Ze (some ⟨b,0,none⟩) fun N O=>ldI h N (O+3) .i64 fun t18=>Zd t18 fun c=>J (c,()) h) (
       Ze (some ⟨b,0,none⟩) fun P R=>ldI h P (R+4) .i64 fun t22=>Ze (some ⟨b,0,none⟩) fun S U=>ldI h S (U+2) .i64 fun t25=>Zm (decide (t22<t25)) (
        Ze (some ⟨b,0,none⟩) fun V W=>Ze (some ⟨b,0,none⟩) fun y z=>ldI h V W .i64 fun t30=>ldI h y (z+5) .i64 fun t31=>Zu ((1000000:Int)≠0) <|
        ZcR t30 (IntKind.wrap .i64 (Int.tdiv (IntKind.wrap .i64 (sec - t31)) 1000000)) (fun t32 o=>Zu (Zo o [(y,z+5,iv t31)]) <| Zd t32 fun f=>Ze (some ⟨b,0,none⟩) fun p q=>ldI o p (q+3) .i64 fun t36 =>
         newC o [iv w.2.2.2.2.1,iv f] 3 fun X A=>Zu (Zo A [(p,q+3,iv t36)]) <| Zde ⟨some ⟨X,0,none⟩,2,2⟩ (fun t39 B=>Zu (Zo B [(p,q+3,iv t36)]) <| Zd (Zpg t39 t36) fun d=>J (d,()) B) A) h) (
        Ze (some ⟨b,0,none⟩) fun Y Z=>ldI h Y Z .i64 fun t44=>Zu ((3:Int)≠0) <| Zq (decide (past<(IntKind.wrap .i64 (Int.tdiv t44 3)))) fun t45=>Zm t45 (
         Ze (some ⟨b,0,none⟩) fun aa ae=>Ze (some ⟨b,0,none⟩) fun C D=>ldI h aa ae .i64 fun t50=>ldI h C (D+5) .i64 fun t51=>Zu ((1000000:Int)≠0) <|
         ZcR t50 (IntKind.wrap .i64 (Int.tdiv (IntKind.wrap .i64 (sec - t51)) 1000000)) (fun t52 r=>Zu (Zo r [(C,D+5,iv t51)]) <| Zd t52 fun j=>Ze (some ⟨b,0,none⟩) fun t u=>ldI r t (u+3) .i64 fun t57 =>
          newC r [iv w.2.2.2.2.1,iv j] 3 fun af E=>Zu (Zo E [(t,u+3,iv t57)]) <| Zde ⟨some ⟨af,0,none⟩,2,2⟩ (fun t60 F=>Zu (Zo F [(t,u+3,iv t57)]) <| Zd (Zpg t60 t57) fun e=>J (e,()) F) E) h) (
         J (w.2.2.2.2.1,()) h))))->∃ tokens second:Int,∀ {b:Nat} {h:Zf} {K:Int->Int->Zf->Prop},obj h b=some (wmO w)->(∀ h',Ext h h'->K tokens second h')->XY (some ⟨b,0,none⟩) at_ past K h:=fun T hT=>by
    refine ⟨Zih (IntKind.wrap .i64 (T - past)) 0,sec,fun {b h K} a H=>?_⟩;unfold XY ZcF;refine Za (Za ⟨by decide,Za ?_⟩);rw [l];refine Zg (rI (Zb a rfl) (Zi I (Zg (rI (Zb a rfl) (Za (Zls (fun (s:Int × Unit) hx=>s=(T,())/\Ext h hx) ?_ fun Q hQ=>hT a fun h' e'=>hQ _ _ ⟨rfl,e'⟩))))));rintro _ hx ⟨rfl,ex⟩;exact Za (Za (H hx ex))
  by_cases G:w.2.2.2.2.2.1<0
  ·exact pre w.2.2.2.1 fun {b h J} a v=>Zg (rI (Zb a rfl) (Zc (Zl (decide_eq_true G) (Zg (rI (Zb a rfl) (Za (v h (Ext.refl _))))))))
  obtain ⟨f,g⟩:=ZqZ w.1 (IntKind.wrap .i64 (Int.tdiv (IntKind.wrap .i64 (sec - w.2.2.2.2.2.1)) 1000000));obtain ⟨sum,m⟩:=ZuA w.2.2.2.2.1 f
  by_cases q3:w.2.2.2.2.1<w.2.2.1
  ·refine pre (Zpg sum w.2.2.2.1) fun {b h J} a v=>Zg (rI (Zb a rfl) (Zc (Zi (decide_eq_false G) (Zg (rI (Zb a rfl) (Zg (rI (Zb a rfl) (Zl (decide_eq_true q3) (Zg (Zg (rI (Zb a rfl) (rI (Zb a rfl) ⟨by decide,g _ _ fun h1 i=>⟨ZZ (Zb (Zj a i) rfl),Za (Zg (rI (Zb (Zj a i) rfl) (ZJ fun h2 c2 x z2=>⟨ZZ (Zb (Zj (Zj a i) x) rfl),m (ZBx (k:=2) (n:=1) c2 rfl (by decide)) ⟨ZZ (Zb (Zj (Zj a i) x) rfl),Za (v h2 (i.trans x))⟩⟩)))⟩⟩))))))))))))
  by_cases q4:past<IntKind.wrap .i64 (Int.tdiv w.1 3)
  ·refine pre (Zpg sum w.2.2.2.1) fun {b h J} a v=>Zg (rI (Zb a rfl) (Zc (Zi (decide_eq_false G) (Zg (rI (Zb a rfl) (Zg (rI (Zb a rfl) (Zi (decide_eq_false q3) (Zg (rI (Zb a rfl) ⟨by decide,Zc (Zl (decide_eq_true q4) (Zg (Zg (rI (Zb a rfl) (rI (Zb a rfl) ⟨by decide,g _ _ fun h1 i=>⟨ZZ (Zb (Zj a i) rfl),Za (Zg (rI (Zb (Zj a i) rfl) (ZJ fun h2 c2 x z2=>⟨ZZ (Zb (Zj (Zj a i) x) rfl),m (ZBx (k:=2) (n:=1) c2 rfl (by decide)) ⟨ZZ (Zb (Zj (Zj a i) x) rfl),Za (v h2 (i.trans x))⟩⟩)))⟩⟩)))))⟩))))))))))
  ·exact pre w.2.2.2.2.1 fun {b h J} a v=>Zg (rI (Zb a rfl) (Zc (Zi (decide_eq_false G) (Zg (rI (Zb a rfl) (Zg (rI (Zb a rfl) (Zi (decide_eq_false q3) (Zg (rI (Zb a rfl) ⟨by decide,Zc (Zi (decide_eq_false q4) (v h (Ext.refl _)))⟩))))))))))
theorem Zu1 (n:Int) : -9223372036854775808<=IntKind.wrap .i64 n/\IntKind.wrap .i64 n<=9223372036854775807:=by
  unfold IntKind.wrap;have b:(2:Int) ^ IntKind.i64.bits=18446744073709551616:=by decide
  have a:(2:Int) ^ (IntKind.i64.bits - 1)=9223372036854775808:=by decide
  have hs:IntKind.i64.signed=true:=rfl;simp only [b,a,hs,Aqa];split
  ·rename_i q;have:=of_decide_eq_true q;omega
  ·rename_i q;have:¬ _:=fun h=>q (decide_eq_true h);omega
theorem ZDM (c:Int × Int × Int × Int × Unit) (tokens:Int):ZOi (Zat c tokens):=by
  obtain ⟨c1,m,f,g,u⟩:=c
  have start:∀ (r:Int),(∀ {h1:Zf} {b:Nat} {K:Int->Zf->Prop},obj h1 b=some (.cells [iv c1,iv m,iv f,iv g].toArray 258 (0,0))->(∀ h',Ext h1 h'->K r h')->ldI h1 b (0+2) .i64 fun t2=>Zm (decide (tokens<t2)) (ldI h1 b 0 .i64 fun t3=>Zd t3 fun t4=>K t4 h1) (
      ldI h1 b (0+2) .i64 fun t5=>ldI h1 b (0+3) .i64 fun t6=>Zm (t5 ==t6) (ldI h1 b 0 .i64 fun t7=>Zd t7 fun t8=>K t8 h1) (ldI h1 b (0+3) .i64 fun t9=>ldI h1 b 0 .i64 fun t10=>ldI h1 b (0+2) .i64 fun t11=>ldI h1 b (0+3) .i64 fun t12 =>
        ZcS t9 t10 (IntKind.wrap .i64 ((IntKind.wrap .i64 ((4:Int)*(IntKind.wrap .i64 (tokens - t11))))+t12)) false (fun t13 t14 i=>Zd t13 fun r=>Zd t14 fun x=>Zd (Zih r 1) fun t16=>K t16 i) h1)))->ZOi (Zat (c1,m,f,g,u) tokens):=fun r p=>⟨r,fun K h d=>by
    unfold Zat Zd9
    exact ZJ fun h1 c1 q w=>Za (p c1 fun h' s=>d h' (q.trans s))⟩
  by_cases j:tokens<f
  ·exact start c1 fun {h1 b K} a d=>rI (Zb a rfl) (Zl (decide_eq_true j) (rI (Zb a rfl) (Za (d h1 (Ext.refl _)))))
  by_cases o:f=g
  ·exact start c1 fun {h1 b K} a d=>rI (Zb a rfl) (Zi (decide_eq_false j) (rI (Zb a rfl) (rI (Zb a rfl) (Zl (by simpa using o) (rI (Zb a rfl) (Za (d h1 (Ext.refl _))))))))
  obtain ⟨k,l⟩:=Zu1 (IntKind.wrap .i64 (4*IntKind.wrap .i64 (tokens - f))+g);obtain ⟨n,e,hm⟩:=Zsa g c1 k l false;exact start (Zih n 1) fun {h1 b K} a d=>rI (Zb a rfl) (Zi (decide_eq_false j) (rI (Zb a rfl) (rI (Zb a rfl) (Zi (by simpa using o) (rI (Zb a rfl) (rI (Zb a rfl) (rI (Zb a rfl) (rI (Zb a rfl) (hm fun t v=>Za (Za (Za (d t v))))))))))))
theorem ZmV (w:Wm) (at_ past:Int):∃ (r e:Int) (w':Wm),∀ {b:Nat} {h:Zf} {K:Int->Int->Zf->Prop},obj h b=some (wmO w)->(∀ h',obj h' b=some (wmO w')->Upd (· = b) h h'->K r e h')->Xd (some ⟨b,0,none⟩) at_ past K h:=by
  by_cases q:ZfW w at_ [past]=0
  case neg =>
    refine ⟨0,ZfW w at_ [past],w,fun {b h K} d f=>?_⟩;unfold Xd ZcG;exact Za (Za (ZJ fun h1 c1 c k=>ZlI (Zj d c) (l:=[past]) (show 1<=100 by decide) (Zj1 c1 rfl) (Za (Zl (by simpa using q) (Za (Za (f h1 (Zj d c) (c.upd _))))))))
  obtain ⟨tk,g,m⟩:=ZEA w at_ past;obtain ⟨r,n⟩:=ZDM (w.1,w.2.1,w.2.2.1,w.2.2.2.1,()) tk;refine ⟨r,0,(w.1,w.2.1,w.2.2.1,w.2.2.2.1,tk,g,at_,()),fun {b h K} d f=>?_⟩;unfold Xd ZcG;refine Za (Za (ZJ fun h1 c1 c k=>ZlI (Zj d c) (l:=[past]) (show 1<=100 by decide) (Zj1 c1 rfl) (Za (Zi (by rw [q];rfl) (m (Zj d c) fun z i=>Zg (Zbf (Zj (Zj d c) i) (show 0+4<7 by decide) rfl fun h3 o p z3=>Zg (Zbf o (show 0+5<7 by decide) rfl fun A s t z4=>Zg (Zbf s (show 0+6<7 by decide) rfl fun u v x z5=>?_))))))));have a:obj u b=some (wmO (w.1,w.2.1,w.2.2.1,w.2.2.2.1,tk,g,at_,())):=v;refine Zg (Zg (rI (Zb a rfl) (rI (Zb a rfl) (rI (Zb a rfl) (rI (Zb a rfl) (rI (Zb a rfl) (n _ _ fun y j=>Za (Za (f y (Zj a j) ?_)))))))));exact ((((c.trans i).upd _).trans p).trans (t.trans x)).trans (j.upd _)
theorem ZqX (w:Wm) (at_ past now n:Int):∃ (ok:Bool) (e:Int) (w':Wm),∀ {b:Nat} {h:Zf} {K:Bool->Int->Zf->Prop},obj h b=some (wmO w)->(∀ h',obj h' b=some (wmO w')->Upd (· = b) h h'->K ok e h')->XZ (some ⟨b,0,none⟩) at_ past now n K h:=by
  have start:∀ {b:Nat} {h:Zf} {K:Bool->Int->Zf->Prop},obj h b=some (wmO w)->(∀ h3,obj h3 b=some (wmO w)->Ext h h3->Zm (ZfW w at_ [past,now] ==1) (Zd (ZfW w at_ [past,now]) fun t4=>K false t4 h3) (Zq (ZfW w at_ [past,now] ==2) fun t5=>Zm t5 (Zd (ZfW w at_ [past,now]) fun t6=>K false t6 h3) (Zm (decide (n<1)) (Zd 2 fun t7=>K false t7 h3) (
      Zq (decide (n>1099511627776)) fun t8=>Zm t8 (Zd 2 fun t9=>K false t9 h3) (Zq (ZfW w at_ [past,now] !=0) fun t10=>Zm t10 (Zd (ZfW w at_ [past,now]) fun t11=>K false t11 h3) (
       Xd (some ⟨b,0,none⟩) at_ past (fun t12 t13 m=>Zd t12 fun r=>Zd t13 fun x=>Zq (decide (now<=(IntKind.wrap .i64 (r - n)))) fun t15=>Zd 0 fun t16=>K t15 t16 m) h3))))))->XZ (some ⟨b,0,none⟩) at_ past now n K h:=fun {b h K} a t=>by
    unfold XZ ZeV;exact Za (ZJ fun h1 c1 o A=>ZlI (Zj a o) (l:=[past,now]) (show 2<=100 by decide) (ZBx (k:=2) (n:=1) c1 rfl (by decide)) (Za (t h1 (Zj a o) o)))
  have g:(ZfW w at_ [past,now] ==1)=false:=by
    unfold ZfW;split
    ·rfl
    ·split
     ·rfl
     ·split
      ·rfl
      ·split<;>rfl
  by_cases q:ZfW w at_ [past,now]=2
  ·exact ⟨false,ZfW w at_ [past,now],w,fun {b h K} a c=>start a fun h3 d f=>Zi g (Zc (Zl (by simpa using q) (Za (c h3 d (f.upd _)))))⟩
  have i:(ZfW w at_ [past,now] ==2)=false:=by simpa using q
  by_cases j:n<1
  ·exact ⟨false,2,w,fun {b h K} a c=>start a fun h3 d f=>Zi g (Zc (Zi i (Zl (decide_eq_true j) (Za (c h3 d (f.upd _))))))⟩
  by_cases p:n>1099511627776
  ·exact ⟨false,2,w,fun {b h K} a c=>start a fun h3 d f=>Zi g (Zc (Zi i (Zi (decide_eq_false j) (Zc (Zl (decide_eq_true p) (Za (c h3 d (f.upd _))))))))⟩
  by_cases s:ZfW w at_ [past,now]=0
  case neg=>exact ⟨false,ZfW w at_ [past,now],w,fun {b h K} a c=>start a fun h3 d f=>Zi g (Zc (Zi i (Zi (decide_eq_false j) (Zc (Zi (decide_eq_false p) (Zc (Zl (by simpa using s) (Za (c h3 d (f.upd _))))))))))⟩
  obtain ⟨r,e,w',u⟩:=ZmV w at_ past;exact ⟨decide (now<=IntKind.wrap .i64 (r - n)),0,w',fun {b h K} a c=>start a fun h3 d f=>Zi g (Zc (Zi i (Zi (decide_eq_false j) (Zc (Zi (decide_eq_false p) (Zc (Zi (by rw [s];rfl) (u d fun v y z=>Za (Za (Zc (Za (c v y ((f.upd _).trans z)))))))))))))⟩
theorem ZBo {a c d:Zf} {x:Nat} (e:Ext a c) (u:Upd (· = x) c d) (b:sz a<=x):Ext a d:=e.then u fun k f=>by subst f;exact b
theorem Zux (w:Wm) (at_ past now n:Int):∃ (ok:Bool) (e:Int),∀ {b:Nat} {h:Zf} {K:Bool->Int->Zf->Prop},obj h b=some (wmO w)->(∀ h',Ext h h'->K ok e h')->Zcv (some ⟨b,0,none⟩) at_ past now n K h:=by
  obtain ⟨ok,e,w',hT⟩:=ZqX w at_ past now n;refine ⟨ok,e,fun {b h K} a c=>?_⟩;unfold Zcv ZeX;exact Za (Zok a fun h1 c1 d i=>hT c1 fun f j g=>Zc (Za (c f (ZBo d g (Aqo _)))))
theorem Zuw (w:Wm) (at_ past:Int):∃ (r e:Int),∀ {b:Nat} {h:Zf} {K:Int->Int->Zf->Prop},obj h b=some (wmO w)->(∀ h',Ext h h'->K r e h')->Zcu (some ⟨b,0,none⟩) at_ past K h:=by
  obtain ⟨r,e,w',a⟩:=ZmV w at_ past;refine ⟨r,e,fun {b h K} c d=>?_⟩;unfold Zcu ZeW;exact Za (Za (Zok c fun h1 c1 f j=>a c1 fun g k i=>Za (Za (d g (ZBo f i (Aqo _))))))
def Zc4 (n:Int) (h:1000000<=n/\n<=120000000):Wid:=⟨n,1,n,by rw [Int.tdiv_one];exact Yr (by omega) (by omega),by decide,by decide,by omega,h.2⟩
structure BkS where
  r:B7
  st:Int
  un:Int
  tr:Int
  la:Int
  w:Win
abbrev bkO (B:BkS) (wb:Nat):Obj:= .cells (b7L B.r++[.pointer (some ⟨wb,0,none⟩),.int .u8 B.st,iv B.un,iv B.tr,iv B.la]).toArray 165 (0,0)
def WOK (r:B7):Prop:=1000000<=r.2.2.2.2.2.1/\r.2.2.2.2.2.1<=120000000
structure BkR (h:Zf) (bb:Nat) (O:Nat->Prop) (B:BkS) (hw:WOK B.r):Prop where
  ex:∃ wb mb,obj h bb=some (bkO B wb)/\Zke (Zc4 _ hw) h wb mb B.w/\O bb/\O wb/\O mb
  last:B.w.last<=B.la
theorem BkR.congr {h h':Zf} {bb:Nat} {O:Nat->Prop} {B:BkS} {hw:WOK B.r} (k:BkR h bb O B hw) (he:∀ j,O j->j<sz h->obj h' j=obj h j):BkR h' bb O B hw:=by
  obtain ⟨⟨wb,mb,h1,a,b,c,d⟩,hl⟩:=k;exact ⟨⟨wb,mb,(he _ b (Zp h1)).trans h1,a.congr (he _ c (Zp a.cells)) (he _ d a.mlt),b,c,d⟩,hl⟩
theorem BkR.mono {h:Zf} {bb:Nat} {O O':Nat->Prop} {B:BkS} {hw:WOK B.r} (k:BkR h bb O B hw) (he:∀ j,O j->O' j):BkR h bb O' B hw:=by
  obtain ⟨⟨wb,mb,h1,a,b,c,d⟩,hl⟩:=k;exact ⟨⟨wb,mb,h1,a,he _ b,he _ c,he _ d⟩,hl⟩
section
variable {h:Zf} {bb wb:Nat} {B:BkS}
theorem Zma (d:obj h bb=some (bkO B wb)) {at_:Int} {K:Int->Zf->Prop} (a:K (ZW B.la at_) h):Xg (some ⟨bb,0,none⟩) at_ K h:=by
  unfold Xg Zcp;unfold ZW at a;refine Za (Zc (Zi rfl (Zn (fun q=>Za ?_) fun q=>Zc (Zn (fun b=>Za ?_) fun b=>Zg (rI (Zb d rfl) (Zc (Zn (fun c=>Za ?_) fun c=>Za ?_)))))))
  ·rw [if_pos q] at a;exact a
  ·rw [if_neg q,if_pos b] at a;exact a
  ·rw [if_neg q,if_neg b,if_pos c] at a;exact a
  ·rw [if_neg q,if_neg b,if_neg c] at a;exact a
def Zl9 (B:BkS) (at_:Int):Bool:=decide (B.st=1)||(decide (B.st=2)&&decide (B.un<=at_))
theorem Zpt (b:obj h bb=some (bkO B wb)) {at_:Int} {K:Bool->Zf->Prop} (a:K (Zl9 B at_) h):Xq (some ⟨bb,0,none⟩) at_ K h:=by
  unfold Xq Zbz;unfold Zl9 at a;refine Zg (rI (Zb b rfl) (Z5 (fun q=>?_) fun q=>Zg (rI (Zb b rfl) (Z5 (fun c=>Zg (rI (Zb b rfl) (Zc ?_))) fun c=>?_))))
  ·rw [decide_eq_true q] at a;exact a
  ·rw [decide_eq_false q,decide_eq_true c] at a;exact a
  ·rw [decide_eq_false q,decide_eq_false c] at a;exact a
def Zud (B:BkS) (at_:Int):Bool:=if ZW B.la at_=0 then Zl9 B at_ else false
theorem Zv5 (b:obj h bb=some (bkO B wb)) {at_:Int} {K:Bool->Int->Zf->Prop} (a:∀ e,K (Zud B at_) e h):ZaH (some ⟨bb,0,none⟩) at_ K h:=by
  unfold ZaH Zcq;unfold Zud at a;refine Za (Zma b (Za ?_))
  by_cases he:ZW B.la at_=0
  ·rw [he]
   rw [if_pos he] at a;exact Zi rfl (Zpt b (Zc (Za (a _))))
  ·rw [if_neg he] at a
   exact Zl (by simpa using he) (Za (a _))
def BkS.enter (B:BkS) (at_:Int):BkS:=if ZW B.la at_=0 then { B with la:=at_,st:=if Zl9 B at_=true/\B.st=2 then 3 else B.st } else B
def Zps (B:BkS) (at_:Int):Bool:=decide (ZW B.la at_=0)&&(Zl9 B at_&&decide (B.st=2))
theorem ZtA (f:obj h bb=some (bkO B wb)) {at_:Int} {K:Bool->Bool->Int->Zf->Prop}
    (b:∀ h' p e,obj h' bb=some (bkO (B.enter at_) wb)->Upd (· = bb) h h'->sz h'=sz h->K p (Zps B at_) e h'):Zak (some ⟨bb,0,none⟩) at_ K h:=by
  unfold Zak ZbT;refine Za (Zma f (Za ?_));unfold Zps BkS.enter at b
  by_cases he:ZW B.la at_=0
  case neg =>
    rw [if_neg he,decide_eq_false he] at b;exact Zl (by simpa using he) (Za (b h _ _ f (Upd.refl _ _) rfl))
  rw [if_pos he,decide_eq_true he,Aqa] at b;rw [he];refine Zi rfl (Zg (Zbf f (show 0+11<12 by decide) rfl fun h1 c1 g i=>?_));have a:obj h1 bb=some (bkO { B with la:=at_ } wb):=c1;refine Zpt a (Zc ?_);have j:Zl9 { B with la:=at_ } at_=Zl9 B at_:=rfl;rw [j];refine ⟨fun q=>Zg (rI (Zb a rfl) (Z5 (fun c=>Zg (Zbf a (show 0+8<12 by decide) rfl fun k l m n=>Zc (Za ?_))) fun c=>Zc (Za ?_))),fun q=>Zc (Za ?_)⟩
  ·have:=b k (Zl9 B at_) 0 (by rw [if_pos ⟨q,c⟩];exact l) (g.trans m) (n.trans i)
   rw [show (Zl9 B at_&&decide (B.st=2))=true by rw [q,decide_eq_true (show B.st=2 from c)];rfl] at this;exact this
  ·have:=b h1 (Zl9 B at_) 0 (by rw [if_neg fun d=>c d.2];exact a) g i
   rw [show (Zl9 B at_&&decide (B.st=2))=false by rw [decide_eq_false (show ¬ B.st=2 from c)];simp] at this;exact this
  ·have:=b h1 (Zl9 B at_) 0 (by rw [if_neg fun d=>by rw [q] at d;cases d.1];exact a) g i
   rw [show (Zl9 B at_&&decide (B.st=2))=false by rw [q];rfl] at this;exact this
def Zpv (B:BkS) (rt:Int) (failed:Bool):Bool:=if B.r.2.1=0 then decide (rt>B.r.2.2.2.1) else failed
theorem Zx0 (b:obj h bb=some (bkO B wb)) {rt:Int} {failed:Bool} {K:Bool->Zf->Prop} (a:K (Zpv B rt failed) h):Zaj (some ⟨bb,0,none⟩) rt failed K h:=by
  unfold Zaj ZbS;unfold Zpv at a;refine Zg (rI (Zb b rfl) (Z5 (fun q=>Zg (rI (Zb b rfl) (Zc ?_))) fun q=>Zc ?_))
  ·rw [if_pos q] at a;exact a
  ·rw [if_neg q] at a;exact a
def BkS.opened (B:BkS) (at_:Int):BkS:={ B with st:=2,un:=Zpg (IntKind.wrap .i64 (at_+B.r.2.2.2.2.2.2.1)) 4611686018427387904,tr:=IntKind.wrap .i64 (B.tr+1)}
theorem Zpu (i:obj h bb=some (bkO B wb)) {at_:Int} {K:Zf->Prop} (j:∀ h',obj h' bb=some (bkO (B.opened at_) wb)->Upd (· = bb) h h'->K h'):ZaG (some ⟨bb,0,none⟩) at_ K h:=by
  unfold ZaG Zco;exact Zg (Zbf i (show 0+8<12 by decide) rfl fun k a c l=>Zg (rI (Zb a rfl) (Zg (Zbf a (show 0+9<12 by decide) rfl fun m b d n=>Zg (rI (Zb b rfl) (Zg (Zbf b (show 0+10<12 by decide) rfl fun e f g o=>j e f ((c.trans d).trans g))))))))
end
theorem ZmS (B:BkS) (c:C6):∃ b:Bool,∀ ⦃h:Zf⦄ ⦃bb wb:Nat⦄ ⦃K:Bool->Zf->Prop⦄,obj h bb=some (bkO B wb)->(∀ h',Ext h h'->K b h')->YH (some ⟨bb,0,none⟩) c K h:=by
  obtain ⟨a,t⟩:=ZqZ 1000 c.2.2.2.1;obtain ⟨d,hd⟩:=ZqZ B.r.2.2.1 c.2.2.1
  by_cases k:c.2.2.1<B.r.2.2.2.2.1
  ·refine ⟨false,fun ⦃h bb wb K⦄ f i=>?_⟩
   unfold YH Xs;exact ZJ fun h1 c1 g p=>rI (Zb c1 rfl) (Zg (rI (Zb (Zj f g) rfl) (Zc (Zl (decide_eq_true k) (i h1 g)))))
  by_cases q:B.r.2.1=2
  ·refine ⟨decide (c.2.2.2.1>B.r.2.2.1),fun ⦃h bb wb K⦄ f i=>?_⟩
   unfold YH Xs;exact ZJ fun h1 c1 g p=>rI (Zb c1 rfl) (Zg (rI (Zb (Zj f g) rfl) (Zc (Zi (decide_eq_false k) (Zg (rI (Zb (Zj f g) rfl) (Zc (Zl (by simpa using q) (rI (Zb c1 rfl) (Zg (rI (Zb (Zj f g) rfl) (Zc (i h1 g)))))))))))))
  have start:∀ (b:Bool),(∀ {e:Zf} {bb wb b1:Nat} {K:Bool->Zf->Prop},obj e bb=some (bkO B wb)->obj e b1=some (.cells (c6L c).toArray 169 (0,0))->K b e->Zm (decide (a>d)) (K true e) (Ze (some ⟨bb,0,none⟩) fun l m=>ldI e l (m+2) .i64 fun t26=>Zm (t26 ==1000) (ldI e b1 (0+3) .i64 fun t27=>ldI e b1 (0+2) .i64 fun t28=>Zq (t27 ==t28) fun t29=>K t29 e) (K false e))) ->
      ∃ b:Bool,∀ ⦃h:Zf⦄ ⦃bb wb:Nat⦄ ⦃K:Bool->Zf->Prop⦄,obj h bb=some (bkO B wb)->(∀ h',Ext h h'->K b h')->YH (some ⟨bb,0,none⟩) c K h:=fun b u=>⟨b,fun ⦃h bb wb K⦄ f i=>by
    unfold YH Xs;refine ZJ fun h1 c1 g p=>rI (Zb c1 rfl) (Zg (rI (Zb (Zj f g) rfl) (Zc (Zi (decide_eq_false k) (Zg (rI (Zb (Zj f g) rfl) (Zc (Zi (by simpa using q) (Zg (rI (Zb c1 rfl) (rI (Zb (Zj f g) rfl) (rI (Zb c1 rfl) (t _ _ fun v j=>⟨ZZ (Zb (Zj c1 j) rfl),ZZ (Zb (Zj (Zj f g) j) rfl),hd _ _ fun h3 n=>?_⟩)))))))))))))
    exact u (Zj (Zj (Zj f g) j) n) (Zj (Zj c1 j) n) (i h3 ((g.trans j).trans n))⟩
  by_cases o:a>d
  ·exact start true fun {e bb wb b1 K} f c1 i=>Zl (decide_eq_true o) i
  by_cases s:B.r.2.2.1=1000
  ·exact start (c.2.2.2.1 ==c.2.2.1) fun {e bb wb b1 K} f c1 i=>Zi (decide_eq_false o) (Zg (rI (Zb f rfl) (Zl (by simpa using s) (rI (Zb c1 rfl) (rI (Zb c1 rfl) (Zc i))))))
  ·exact start false fun {e bb wb b1 K} f c1 i=>Zi (decide_eq_false o) (Zg (rI (Zb f rfl) (Zi (by simpa using s) i)))
end Go.Proofs.YthbfgkphlmlihaaGreat
