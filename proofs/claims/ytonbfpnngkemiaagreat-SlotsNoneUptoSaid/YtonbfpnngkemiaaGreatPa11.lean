/- The tree of nodes: what Touch, Pass and Block leave. -/
import Derived.Test.YtonbfpnngkemiaaGreatPa10
set_option linter.unusedVariables false
set_option linter.unusedSimpArgs false
namespace Go.Proofs.YtonbfpnngkemiaaGreat
open Go Go.Fw
open Nat renaming reduceAdd->Nqa,reduceLT->Nqb,reduceLeDiff->Nqc,reduceEqDiff->Nqd,reduceMul->Nqe
def Tree.put(t:Tree)(k:K4)(n:Node):Tree:=⟨λj=>if j=k then some n else t.f j,t.keys,t.last⟩
theorem Zbn.lt{h:Zf}{tb:Nat}{O:Nat->Prop}{t:Tree}(a:Zbn h tb O t):tb<sz h:=by obtain⟨mb,base,ks,A,hi,ho⟩:=a;exact Zp hi.cells
theorem Zbn.last{h:Zf}{tb:Nat}{O:Nat->Prop}{t:Tree}(a:Zbn h tb O t):Zy 2 (obj h tb)=some (iv t.last):=by obtain⟨mb,base,ks,A,hi,ho⟩:=a;exact Zb hi.cells rfl
theorem Zbn.keys{h:Zf}{tb:Nat}{O:Nat->Prop}{t:Tree}(a:Zbn h tb O t):∃ks:Sl,Zy 1 (obj h tb)=some (slV ks)/\ks.len=t.keys.length/\t.keys.length<=512:=by obtain⟨mb,base,ks,A,hi,ho⟩:=a;have hl:=hi.row.len;rw[YN Zfb]at hl;exact⟨ks,Zb hi.cells rfl,(Ayf (by decide) hl).symm,hi.len⟩
theorem Zbn.look{h:Zf}{tb:Nat}{O:Nat->Prop}{t:Tree}(s:Zbn h tb O t)(k:K4):
    ∃ mb,Zy 0 (obj h tb)=some (.map (some mb))/\((t.f k=none/\∀K:Option Value->Prop,K none->ZbA [(.int .u8),.string,.string,.string] h (some mb) (k4L k) K)\/
      ∃ q n,t.f k=some n/\Zg6 h q n/\(∀j,inN q j->O j/\j≠tb)/\(∀K:Option Value->Prop,K (some (.pointer (some ⟨q+4,0,none⟩)))->ZbA [(.int .u8),.string,.string,.string] h (some mb) (k4L k) K)/\
        ∀h' g,Zg6 h' q g->Upd (inN q) h h'->Zbn h' tb O (t.put k g)):=by
  obtain⟨mb,base,ks,A,hi,ho⟩:=s;obtain⟨n,hm⟩:=hi.map;refine⟨mb,Zb hi.cells rfl,?_⟩
  rcases hi.node k with⟨a,b⟩ |⟨q,n,a,b,c⟩
  ·exact .inl ⟨b,λK l=>hm.get k (by rw[a];exact l)⟩
  ·refine .inr ⟨q,n,b,c,λj d=>⟨ho j (.inr (.inr (.inr ⟨k,q,a,d⟩))),(hi.out k q a j d).1⟩,λK l=>hm.get k (by rw[a];exact l),λh' g m u=>?_⟩;have keep:∀j,j<sz h->¬inN q j->obj h' j=obj h j:=λj d v=>u.old j d v
   refine ⟨mb,base,ks,A,⟨(keep tb (Zp hi.cells) λd=>(hi.out k q a _ d).1 rfl).trans hi.cells,⟨_,hm.congr (keep mb hm.lt λd=>(hi.out k q a _ d).2.1 rfl)⟩,
     hi.row.congr λb w hl _=>keep b hl λd=>(hi.out k q a _ d).2.2 w,hi.len,λj=>?_,hi.disj,hi.mt,hi.kb,hi.out⟩,ho⟩
   by_cases e:j=k
   ·exact .inr ⟨q,g,by rw[e];exact a,if_pos e,m⟩
   ·rcases hi.node j with⟨i,o⟩ |⟨p,x,i,o,r⟩
    ·exact .inl ⟨i,(if_neg e).trans o⟩
    ·refine .inr ⟨p,x,i,(if_neg e).trans o,r.congr λy w1 z=>keep y (by have:=r.lt;omega) λd=>?_⟩;have:=hi.disj j k p q i a e;obtain⟨v1,v2⟩:=d;omega
theorem Zbn.setLast{h:Zf}{tb:Nat}{O:Nat->Prop}{t:Tree}(k:Zbn h tb O t){at_:Int}{K:Zf->Prop}(l:∀h',Zbn h' tb O ⟨t.f,t.keys,at_⟩->Upd O h h'->K h'):st h tb 2 (iv at_) K:=by
  obtain⟨mb,base,ks,A,hi,ho⟩:=k;refine ZcS hi.cells (show 2<3 by decide) rfl λh' m a z'=>l h' ⟨mb,base,ks,A,⟨m,?_,?_,hi.len,λj=>?_,hi.disj,hi.mt,hi.kb,hi.out⟩,ho⟩ (a.mono λj _ o=>by rw[o];exact ho tb (.inl rfl))
  ·obtain⟨n,hm⟩:=hi.map;exact⟨n,hm.congr (a.old _ hm.lt hi.mt)⟩
  ·exact hi.row.congr λb p hl _=>a.old b hl (hi.kb b p).1
  ·rcases hi.node j with g|⟨d,q,e,r,i⟩
   ·exact .inl g
   ·exact .inr ⟨d,q,e,r,i.congr λc w1 s=>a.old c (show c<sz h by have:=i.lt;omega) (hi.out j d e c ⟨w1,s⟩).1⟩
def ZoD(h:Zf)(p:Option Addr)(o:Option Node):Prop:=(o=none/\p=none)\/∃c a d b mb n,o=some n/\p=some ⟨c,0,none⟩/\ZjG h c a d b mb n
theorem ZoD.ext{h h':Zf}{p:Option Addr}{o:Option Node}(c:ZoD h p o)(e:Ext h h'):ZoD h' p o:=by
  rcases c with g|⟨d,a,f,b,mb,n,h1,i,h3⟩
  ·exact .inl g
  ·exact .inr ⟨d,a,f,b,mb,n,h1,i,h3.ext e⟩
theorem Zp8{h:Zf}{tb:Nat}{O:Nat->Prop}{t:Tree}(e:Zbn h tb O t){k:K4}{K:Option Addr->Zf->Prop}(d:∀h' p,Ext h h'->ZoD h' p (t.f k)->K p h'):ZaS (some ⟨tb,0,none⟩) k K h:=by
  unfold ZaS ZgB;refine ZF λh1 c1 b o=>ZB (Zi ?_);obtain⟨mb,g,a⟩:=(e.ext b).look k;refine rM g (rI (Zb c1 rfl) (rS (Zb c1 rfl) (rS (Zb c1 rfl) (rS (Zb c1 rfl) ?_))))
  rcases a with⟨c,a⟩ |⟨q,n,c,i,_,a,_⟩
  ·refine a _ ⟨none,rfl,Zt0 (d h1 none b (.inl ⟨c,rfl⟩))⟩
  ·refine a _ ⟨_,rfl,Zwx i λj l m r=>d j _ (b.trans m) (.inr ⟨_,_,_,_,_,n,c,rfl,l⟩)⟩
theorem ZBb{t:Tree}{k j:K4}(h:j≠k):(t.make k).isNew j=t.isNew j:=by
  unfold Tree.make Tree.isNew;split
  ·rfl
  ·show(if j=k then some Node.zero else t.f j).isNone=_;rw[if_neg h]
theorem ZpA{t:Tree}{k:K4}:∀{l:List K4},k∉l->(t.make k).freshN l=t.freshN l
  |[],_=>rfl
  | x::l,h=>by
    have h1:x≠k:=λe=>h (by rw[e];exact List.mem_cons_self ..);have a:=ZpA (t:=t) (k:=k) (l:=l) λhm=>h (Aws _ hm);unfold Tree.freshN at a⊢;rw[List.filter_cons,List.filter_cons,ZBb h1];split<;>simp[a]
theorem ZBc(t:Tree)(k:K4):(t.make k).keys.length=t.keys.length+(if t.isNew k=true then 1 else 0):=by
  unfold Tree.make Tree.isNew
  cases h:t.f k with
  |none=>simp
  |some n=>simp
theorem Zwc(t:Tree)(k:K4)(l:List K4):t.freshN (k::l)=(if t.isNew k=true then 1 else 0)+t.freshN l:=by
  unfold Tree.freshN;rw[List.filter_cons];split
  ·rw[Aqj];omega
  ·omega
def Tree.room(t:Tree)(l:List K4):Prop:=t.keys.length+t.freshN l<=512
instance(t:Tree)(l:List K4):Decidable (t.room l):=inferInstanceAs (Decidable (_<=_))
theorem ZrR{t:Tree}{k:K4}{l:List K4}(a:t.room (k::l))(b:k∉l):(t.isNew k=true->t.keys.length<512)/\(t.make k).room l:=by
  unfold Tree.room at *;rw[Zwc]at a;rw[ZBc,ZpA b];refine⟨λe=>?_,?_⟩
  ·rw[if_pos e]at a;omega
  ·omega
theorem ZkD(c:C8):(Xu c).Nodup:=by unfold Xu ZwE ZHy;split<;>split<;>simp
theorem ZqW(c:C8):(Xu c).length<=5:=by unfold Xu ZwE ZHy;split<;>split<;>simp
theorem Znl{S T:Nat->Prop}{a b c:Zf}(h:Upd S a b)(h':Upd T b c)(hs:∀k,k<sz a->T k->S k):Upd S a c:=
  ⟨Aqp h.size h'.size,λk d e=>(h'.old k (Aqq d h.size) λhT=>e (hs k d hT)).trans (h.old k d e)⟩
theorem ZvF{at_:Int}{K:Bool->Zf->Prop}{h:Zf}(a:K (inB at_ 0 1152921504606846976) h):Za4 at_ K h:=by unfold Za4 Zi3;unfold inB at a;exact⟨λe=>by rw[e]at a;exact Zd a,λe=>by rw[e]at a;exact a⟩
def Tree.full(t:Tree)(k:K4):Bool:=match t.f k with
  |some n=>decide (n.fl>=4096)
  |none=>false
theorem Zwb{h:Zf}{tb d:Nat}{O:Nat->Prop}{t:Tree}{T:TypeId}(g:Zbn h tb O t)(f:obj h d=some (.cells [.pointer (some ⟨tb,0,none⟩)].toArray T (0,0))){k:K4}{K:Bool->Zf->Prop}(i:∀h',Ext h h'->K (t.full k) h'):ZcE k (some ⟨d,0,none⟩) K h:=by
  unfold ZcE Zfk;refine ZF λh1 c1 c m=>Zi (rP (Zb (Zj f c) rfl) (Zi ?_));obtain⟨mb,j,b⟩:=(g.ext c).look k;have hd:Zo h1 [(d,0,.pointer (some ⟨tb,0,none⟩))]:=Yj (Zb (Zj f c) rfl);have a:=i h1 c;unfold Tree.full at a;refine rM j (rI (Zb c1 rfl) (rS (Zb c1 rfl) (rS (Zb c1 rfl) (rS (Zb c1 rfl) ?_))))
  rcases b with⟨e,b⟩ |⟨q,n,e,l,_,b,_⟩
  ·rw[e]at a;exact b _ ⟨none,rfl,hd,ZmP ⟨hd,Zd a⟩⟩
  ·rw[e]at a;exact b _ ⟨_,rfl,hd,ZoC l ⟨hd,Zd a⟩⟩
theorem Zyq{h:Zf}{tb v:Nat}{O:Nat->Prop}{t:Tree}{T:TypeId}(y:Zbn h tb O t)(z:obj h v=some (.cells [.pointer (some ⟨tb,0,none⟩)].toArray T (0,0))){s:Sl}{l:List K4}(hs:Row h s 4 (l.flatMap k4L))(hl:l.length<=100000)
    {K:Bool->Zf->Prop} (e:∀h',Ext h h'->K (l.any t.full) h'):Zt s (some ⟨v,0,none⟩,()) K h:=by
  unfold Zt ZT Z3 Z8;have hlen:=hs.len;rw[YN Zfb]at hlen;have A:s.len=l.length:=(Ayf (by decide) hlen).symm;refine Za (Zaj (λp w=>∃i:Nat,p=((i:Int),())/\i<=l.length/\Ext h w/\(l.take i).any t.full=false) (λp _=>l.length- p.1.toNat) ⟨0,rfl,Ayg _,Ext.refl _,rfl⟩ ?_);rintro _ w ⟨i,rfl,B,he,j⟩ Q C;dsimp only;refine Zn (λq=>?_) λq=>?_
  ·have a:i<l.length:=by omega
   have f:l[i]?=some l[i]:=Axy a;generalize l[i]=k at f;obtain⟨b,o,D,E,d,g⟩:=Zab Zfb (hs.ext he) f (by decide);have v0:=g 0 _ rfl;have v1:=g 1 _ rfl;have v2:=g 2 _ rfl;have v3:=g 3 _ rfl;have m:IntKind.wrap .i64 ((i:Int)+1)=((i+1:Nat):Int):=wrS a (by omega);have n:l.take (i+1)=l.take i++[k]:=by rw[Aym,f];rfl
   refine Za (d rfl (rI v0 (rS v1 (rS v2 (rS v3 (Zwb (y.ext he) (Zj z he) λh1 x=>⟨λr=>?_,λr=>?_⟩))))))
   ·have:l.any t.full=true:=List.any_eq_true.2 ⟨k,Axo f,r⟩
    rw[this]at e;refine Za (Zd ?_);have:decide ((i:Int)>=0)=true:=by simp
    rw[this];exact e _ (he.trans x)
   ·rw[m];refine C _ _ ⟨i+1,rfl,a,he.trans x,?_⟩ (by show l.length- ((i+1:Nat):Int).toNat<l.length- ((i:Nat):Int).toNat;omega);have u:t.full k=false:=r;rw[n,List.any_append,j];simp[u]
  ·have c:l.take i=l:=Awd (by omega);rw[c]at j;rw[j]at e;exact Za (Zd (e _ he))
def Tree.on(t:Tree)(k:K4)(g:Node->Node):Tree:=match t.f k with
  |some n=>t.put k (g n)
  |none=>t
def Tree.steps(g:Node->Node):List K4->Tree->Tree
  |[],t=>t
  |k::l,t=>Tree.steps g l ((t.make k).on k g)
def Tree.noteE(t:Tree)(c:C8)(full:Bool):Int:=
  if Zj6 c≠0 then Zj6 c else if ¬(0<=c.1/\c.1<=1152921504606846976)then 2 else if ¬(1<=c.2.2.2.2.2.1/\c.2.2.2.2.2.1<=1099511627776)then 2 else if c.1<t.last then 7
  else if ¬t.room (Xu c)then 3 else if full=true/\(Xu c).any t.full=true then 3 else 0
def Tree.noted(t:Tree)(c:C8)(full:Bool)(g:Node->Node):Tree:=if t.noteE c full=0 then(let t':=t.steps g (Xu c);⟨t'.f,t'.keys,c.1⟩)else t
theorem ZBd(t:Tree)(k:K4):∃n,(t.make k).f k=some n:=by
  unfold Tree.make;split
  ·rename_i n h;exact⟨n,h⟩
  ·exact⟨Node.zero,if_pos rfl⟩
theorem ZEe(t:Tree)(k:K4)(g:Node->Node):(t.on k g).keys=t.keys:=by unfold Tree.on;split<;>rfl
theorem ZG7(t:Tree)(k j:K4)(g:Node->Node):(t.on k g).isNew j=t.isNew j:=by
  unfold Tree.on;split
  ·rename_i n h;unfold Tree.isNew Tree.put;dsimp only
   by_cases e:j=k
   ·rw[if_pos e,e,h];rfl
   ·rw[if_neg e]
  ·rfl
theorem ZEd{t:Tree}{k:K4}{g:Node->Node}{l:List K4}(h:t.room l):(t.on k g).room l:=by unfold Tree.room Tree.freshN at *;rw[ZEe];have:(t.on k g).isNew=t.isNew:=funext λj=>ZG7 t k j g;rw[this];exact h
abbrev Zyo(O O':Nat->Prop)(h h':Zf):Prop:=(∀j,O' j->O j\/(sz h<=j/\j<sz h'))/\∀j,O j->O' j
theorem Zpv{f:Option Addr->Option Addr->(Int->Zf->Prop)->Zf->Prop}{g:Node->Node}{cb:Nat}{x:Obj}(hf:∀(h:Zf) (q:Nat) (n:Node) (K:Int->Zf->Prop),Zg6 h q n->obj h cb=some x->(∀e h',Zg6 h' q (g n)->Upd (inN q) h h'->K e h')->f (some ⟨q+4,0,none⟩) (some ⟨cb,0,none⟩) K h)
    {h:Zf} {tb:Nat} {O:Nat->Prop} {t:Tree} (ht:Zbn h tb O t) (hO:∀j,O j->j<sz h) (ab:obj h cb=some x) (ae:¬O cb) {c:C8} (hz:Zkr c) {full:Bool} {K:Int->Zf->Prop}
    (hk:∀h' O',Zbn h' tb O' (t.noted c full g)->Upd O h h'->Zyo O O' h h'->K (t.noteE c full) h'):
    YS ZbT Za4 Xx Zt Xw f (some ⟨tb,0,none⟩) c full (some ⟨cb,0,none⟩,()) K h:=by
  have no:∀e (a:Zf),Ext h a->e≠0->t.noteE c full=e->K e a:=λe a e9 h1 h2=>by
    have:=hk a O (by unfold Tree.noted;rw[if_neg (by rw[h2];exact h1)];exact ht.ext e9) (e9.upd _) ⟨λj d=>.inl d,λj d=>d⟩;rwa[h2]at this
  unfold YS;refine ZF λh1 c1 e1 z1=>ZF λh3 I e3 z3=>Za ?_;have p3:=Zj c1 e3;refine rP (Zb p3 rfl) (ZB (rI (Zb I rfl) (rS (Zb I rfl) (rS (Zb I rfl) (rS (Zb I rfl) (rB (Zb I rfl) (rI (Zb I rfl) (rL (Zb I rfl) ?_))))))));refine ZoB (c:=c) hz λs B e4 V=>Za (Zd (Zdt (λC=>Za ?_) λC=>?_))
  ·exact no _ B ((e1.trans e3).trans e4) C (by unfold Tree.noteE;rw[if_pos C])
  rw[if_pos C]at V;have u:Ext h B:=(e1.trans e3).trans e4;have W:=Zj I e4;have p4:=Zj p3 e4;have t4:=ht.ext u;refine rI (Zb W rfl) (ZvF ?_)
  by_cases X:0<=c.1/\c.1<=1152921504606846976
  case neg=>
    have:inB c.1 0 1152921504606846976=false:=by unfold inB;simp;omega
    rw[this];exact Xh (Za (no 2 B u (by decide) (by unfold Tree.noteE;rw[if_neg (λa=>a C),if_pos X])))
  have:inB c.1 0 1152921504606846976=true:=by unfold inB;simp;omega
  rw[this];refine ZB (rI (Zb W rfl) ?_)
  by_cases Y:1<=c.2.2.2.2.2.1/\c.2.2.2.2.2.1<=1099511627776
  case neg=>
    have hE:t.noteE c full=2:=by unfold Tree.noteE;rw[if_neg (λa=>a C),if_neg (λa=>a X),if_pos Y]
    refine Zn (λq2=>Za (no 2 B u (by decide) hE)) λq2=>rI (Zb W rfl) (Zd (Zn (λq3=>Za (no 2 B u (by decide) hE)) λq3=>?_));exact absurd ⟨by omega,by omega⟩ Y
  refine Zn (λq2=>by omega) λq2=>rI (Zb W rfl) (Zd (Zn (λq3=>by omega) λq3=>?_));refine rI (Zb W rfl) (rP (Zb p4 rfl) (Zi (rI t4.last (Zd (Zn (λq4=>Za (no 7 B u (by decide) ?_)) λq4=>?_)))))
  ·unfold Tree.noteE;rw[if_neg (λa=>a C),if_neg (λa=>a X),if_neg (λa=>a Y),if_pos q4]
  obtain⟨ks,aj,aO,bx⟩:=t4.keys;refine rP (Zb p4 rfl) (Zi (rP (Zb p4 rfl) (Zi (rL aj ?_))));have bz:=ZqW c;refine ZpP t4 V.row (ZkD c) (by omega) λh5 N=>?_;have t5:=t4.ext N;have p5:=Zj p4 N;have c5:=Zj W N;have P:=u.trans N;have ak:Zy 1 (obj h5 tb)=some (slV ks):=by rw[ZQ N t4.lt];exact aj
  refine⟨Yj ak,Yj (Zb p5 rfl),Yj (Zb p5 rfl),Zd ?_⟩;rw[aO,Yw (by omega) (by omega)];have w:((t.freshN (Xu c):Int)>512-(t.keys.length:Int))↔¬t.room (Xu c):=by unfold Tree.room;omega
  refine Zn (λq5=>Za (no 3 h5 P (by decide) ?_)) λq5=>?_
  ·unfold Tree.noteE;rw[if_neg (λa=>a C),if_neg (λa=>a X),if_neg (λa=>a Y),if_neg q4,if_pos (w.1 q5)]
  have hr:t.room (Xu c):=Classical.byContradiction λa=>q5 (w.2 a);refine ZoF (λ_ l=>Ext h5 l/\¬(full=true/\(Xu c).any t.full=true)) ?_ λQ hQ=>?_
  case refine_2=>
    refine⟨λJ=>Zyq t5 p5 (V.row.ext N) (by omega) λl L=>⟨λD=>Za (no 3 l (P.trans L) (by decide) ?_),λD=>hQ _ _ ⟨L,λa=>?_⟩⟩,λJ=>hQ _ _ ⟨Ext.refl _,λa=>?_⟩⟩
    ·unfold Tree.noteE;rw[if_neg (λa=>a C),if_neg (λa=>a X),if_neg (λa=>a Y),if_neg q4,if_neg (λa=>a hr),if_pos ⟨J,D⟩]
    ·rw[a.2]at D;cases D
    ·rw[a.1]at J;cases J
  rintro _ l ⟨L,aS⟩;have hE:t.noteE c full=0:=by unfold Tree.noteE;rw[if_neg (λa=>a C),if_neg (λa=>a X),if_neg (λa=>a Y),if_neg q4,if_neg (λa=>a hr),if_neg aS]
  have hN:t.noted c full g=⟨(t.steps g (Xu c)).f,(t.steps g (Xu c)).keys,c.1⟩:=by unfold Tree.noted;rw[if_pos hE]
  rw[hE,hN]at hk;have hlen:=V.row.len;rw[YN Zfb]at hlen;have bC:s.len=(Xu c).length:=(Ayf (by decide) hlen).symm;have al:=N.trans L;have z:=P.trans L;have zz:sz h<=sz h1:=e1.size;have w1:sz h1=sz h+1:=z1;have w3:sz h3=sz h1+1:=z3;have w4:sz h3<=sz B:=e4.size;have bD:sz B<=sz l:=al.size;have rows:∀b,s.blk=some b->sz h<=b/\b<sz B:=λb J=>by have:sz h3<=b/\b<sz B:=V.lt J;omega
  refine Zaj (λp m=>∃(i:Nat) (Z:List K4) (t2:Tree) (O2:Nat->Prop),p=((i:Int),())/\i<=(Xu c).length/\(Xu c).drop i=Z/\Tree.steps g Z t2=Tree.steps g (Xu c) t/\Zbn m tb O2 t2/\t2.room Z/\Upd O l m/\Zyo O O2 l m)
    (λp _=>(Xu c).length- p.1.toNat) ⟨0,_,t,O,rfl,Ayg _,rfl,rfl,t5.ext L,hr,Upd.refl _ _,λj d=>.inl d,λj d=>d⟩ ?_
  rintro _ m ⟨i,Z,t2,O2,rfl,bE,R,ao,aq,aT,hu,v,ar⟩ Q hQ;have nO:∀j,sz h<=j->¬O j:=λj d a=>by have:=hO j a;omega
  have old:∀{j:Nat} {y:Obj},obj l j=some y->¬O j->obj m j=some y:=λ{j y} d E=>(hu.old j (Zp d) E).trans d;have p6:obj m (sz h)=_:=old (Zj p5 L) (nO _ (Aqo _));have c6:obj m (sz h1)=_:=old (Zj c5 L) (nO _ (by omega));have x6:obj m cb=some x:=old (Zj ab z) ae;have w6:sz l<=sz m:=hu.size;dsimp only;refine Zn (λq=>?_) λq=>?_
  ·have F:i<(Xu c).length:=by omega
   have hg:(Xu c)[i]?=some (Xu c)[i]:=Axy F;have av:Z=(Xu c)[i]::(Xu c).drop (i+1):=by rw[<-R];exact Ayo F
   generalize (Xu c)[i]=k at hg av;subst av
   have aV:k∉(Xu c).drop (i+1):=by
     have:=ZkD c;rw[<-Ayn i (Xu c),List.nodup_append]at this;rw[R]at this;exact(Ayp.1 this.2.1).1
   obtain⟨aW,aX⟩:=ZrR aT aV;have aw:Row m s 4 ((Xu c).flatMap k4L):=(V.row.ext al).congr λb o J _ hl=>hu.old b hl (nO _ (rows b (by simp[Sl.blk,J])).1);obtain⟨b,o,bH,bI,ax,G⟩:=Zab Zfb aw hg (by decide);have v0:=G 0 _ rfl;have v1:=G 1 _ rfl;have v2:=G 2 _ rfl;have v3:=G 3 _ rfl;have aY:IntKind.wrap .i64 ((i:Int)+1)=((i+1:Nat):Int):=wrS F (by omega);refine ax rfl (rI v0 (rS v1 (rS v2 (rS v3 (ZF λh7 c7 e7 z7=>ZaN c7 λh8 c8 u8 z8=>?_)))));have e8:Ext m h8:=e7.then u8 λk hk=>by subst hk;exact Aqo _
   refine rP (Zb (Zj p6 e8) rfl) (Zi (rI (Zb c8 rfl) (rS (Zb c8 rfl) (rS (Zb c8 rfl) (rS (Zb c8 rfl) ?_)))));refine ZpB (k:=k) (aq.ext e8) aW λa O9 t9 u9 g9 ba=>?_;have w8:sz m<=sz h8:=e8.size;have w9:sz h8<=sz a:=u9.size
   have az:∀j,j<sz l->¬O j->¬O2 j:=λj d E r=>by
     rcases v j r with g|g
     ·exact E g
     ·omega
   have M:∀{j:Nat} {y:Obj},obj m j=some y->j<sz l->¬O j->obj a j=some y:=λ{j y} d hl E=>(u9.old j (show j<sz h8 by omega) (az j hl E)).trans (Zj d e8);have l0:sz h<sz l:=by omega
   have l1:sz h1<sz l:=by omega
   have p9:=M p6 l0 (nO _ (Aqo _));have x9:=M x6 (Zp (Zj ab z)) ae
   have c9:obj a (sz m)=_:=(u9.old (sz m) (Zp c8) (λr=>by
     rcases v _ r with g|g
     ·have:=hO _ g;omega
     ·omega)).trans c8
   refine⟨Yj (Zb p9 rfl),rP (Zb p9 rfl) (Zi ?_)⟩;obtain⟨mb,bb,S⟩:=t9.look k;refine rM bb (rI (Zb c9 rfl) (rS (Zb c9 rfl) (rS (Zb c9 rfl) (rS (Zb c9 rfl) ?_))));obtain⟨n,E⟩:=ZBd t2 k
   rcases S with⟨A,_⟩ |⟨q9,n9,A,bc,aB,S,aC⟩
   ·rw[E]at A;cases A
   rw[E]at A;cases A;refine S _ ⟨_,rfl,Yj (Zb p9 rfl),hf a q9 n _ bc x9 λe T n10 H=>?_⟩;have t10:=aC T _ n10 H
   have aD:∀j,O9 j->O j\/sz l<=j:=λj d=>by
     rcases g9 j d with g|g
     ·rcases v j g with g|g
      ·exact .inl g
      ·exact .inr g.1
     ·exact .inr (by omega)
   have bd:obj T (sz h)=_:=(H.old (sz h) (Zp p9) (λr=>by
     rcases aD _ (aB _ r).1 with g|g
     ·exact nO _ (Aqo _) g
     ·omega)).trans p9
   refine⟨Yj (Zb bd rfl),?_⟩;rw[aY];have bf:(t2.make k).on k g=(t2.make k).put k (g n):=by unfold Tree.on;rw[E]
   refine hQ _ _ ⟨i+1,(Xu c).drop (i+1),(t2.make k).on k g,O9,rfl,F,rfl,ao,by rw[bf];exact t10,ZEd aX,?_,?_,?_⟩ (by show(Xu c).length- ((i+1:Nat):Int).toNat<(Xu c).length- ((i:Nat):Int).toNat;omega)
   ·refine Znl (Znl (hu.trans (e8.upd O)) u9 λj d U=>Classical.byContradiction λr=>az j d r U) H λj d hq=>?_
    rcases aD j (aB j hq).1 with g|g
    ·exact g
    ·omega
   ·intro j d;have bP:sz a<=sz T:=H.size
    rcases g9 j d with g|g
    ·rcases v j g with g|g
     ·exact .inl g
     ·exact .inr (by omega)
    ·exact .inr (by omega)
   ·exact λj d=>ba j (ar j d)
  ·have bg:Z=[]:=by rw[<-R];exact Ayq (by omega)
   subst bg;refine rP (Zb p6 rfl) (rI (Zb c6 rfl) (Zi (aq.setLast λh7 t7 u7=>Za (hk h7 O2 ?_ ?_ ?_))))
   ·rw[<-ao];exact t7
   ·refine Znl ((z.upd O).trans hu) u7 λj d U=>?_;have bh:sz h<=sz l:=z.size
    rcases v j U with g|g
    ·exact g
    ·omega
   ·have w7:sz m<=sz h7:=u7.size;have bh:sz h<=sz l:=z.size;refine⟨λj d=>?_,ar⟩
    rcases v j d with g|g
    ·exact .inl g
    ·exact .inr (by omega)
abbrev ZBt(c:C8):Obj:=.cells (c8L c).toArray 25 (0,0)
theorem ZvX{c:C8}{cb:Nat}(h:Zf)(q:Nat)(n:Node)(K:Int->Zf->Prop)(d:Zg6 h q n)(a:obj h cb=some (ZBt c))(f:∀e h',Zg6 h' q (n.passed c.1 c.2.2.2.2.2.1)->Upd (inN q) h h'->K e h'):
    ZcF (some ⟨q+4,0,none⟩) (some ⟨cb,0,none⟩) K h:=by
  unfold ZcF Zfl;refine Za (Zi (rI (Zb a rfl) (Zi (rI (Zb a rfl) (ZF λh1 c1 b k=>?_)))));exact Zwv (d.ext b) (ZkO c1 rfl) λg i j=>Za (f _ g i (ZIy b j))
theorem ZtR{c:C8}{cb:Nat}(h:Zf)(q:Nat)(n:Node)(K:Int->Zf->Prop)(d:Zg6 h q n)(a:obj h cb=some (ZBt c))(f:∀e h',Zg6 h' q (n.blocked c.1 c.2.2.2.2.2.1)->Upd (inN q) h h'->K e h'):
    ZbS (some ⟨q+4,0,none⟩) (some ⟨cb,0,none⟩) K h:=by
  unfold ZbS Zen;refine Za (Zi (rI (Zb a rfl) (Zi (rI (Zb a rfl) (ZF λh1 c1 b k=>?_)))));exact Zt1 (d.ext b) (ZkO c1 rfl) λg i j=>Za (f _ g i (ZIy b j))
def Tree.passed(t:Tree)(c:C8):Tree:=t.noted c true λn=>n.passed c.1 c.2.2.2.2.2.1
def Tree.blocked(t:Tree)(c:C8):Tree:=t.noted c false λn=>n.blocked c.1 c.2.2.2.2.2.1
theorem ZtH{O O':Nat->Prop}{h h1 h':Zf}(e:Ext h h1)(g:Zyo O O' h1 h'):Zyo O O' h h':=by
  refine⟨λj a=>?_,g.2⟩;have:sz h<=sz h1:=e.size
  rcases g.1 j a with g|g
  ·exact .inl g
  ·exact .inr (by omega)
theorem Zwr{h:Zf}{tb:Nat}{O:Nat->Prop}{t:Tree}(d:Zbn h tb O t)(b:∀j,O j->j<sz h){c:C8}(hz:Zkr c){K:Int->Zf->Prop}
    (f:∀e h' O',Zbn h' tb O' (t.passed c)->Upd O h h'->Zyo O O' h h'->K e h'):Zca (some ⟨tb,0,none⟩) c K h:=by
  unfold Zca ZgA;refine ZF λh1 c1 a q=>Za (rI (Zb c1 rfl) (rS (Zb c1 rfl) (rS (Zb c1 rfl) (rS (Zb c1 rfl) (rB (Zb c1 rfl) (rI (Zb c1 rfl) (rL (Zb c1 rfl) ?_)))))))
  exact Zpv (x:=ZBt c) (cb:=sz h) (g:=λn=>n.passed c.1 c.2.2.2.2.2.1) (ZvX (c:=c)) (d.ext a) (λj i=>by have:=b j i;have:sz h<=sz h1:=a.size;omega) c1 (λk=>by have:=b _ k;omega) (c:=c) hz
    λl m t2 o p=>Za (f _ l m t2 ((a.upd O).trans o) (ZtH a p))
theorem ZtX{h:Zf}{tb:Nat}{O:Nat->Prop}{t:Tree}(d:Zbn h tb O t)(b:∀j,O j->j<sz h){c:C8}(hz:Zkr c){K:Int->Zf->Prop}
    (f:∀e h' O',Zbn h' tb O' (t.blocked c)->Upd O h h'->Zyo O O' h h'->K e h'):ZbB (some ⟨tb,0,none⟩) c K h:=by
  unfold ZbB ZfP;refine ZF λh1 c1 a q=>Za (rI (Zb c1 rfl) (rS (Zb c1 rfl) (rS (Zb c1 rfl) (rS (Zb c1 rfl) (rB (Zb c1 rfl) (rI (Zb c1 rfl) (rL (Zb c1 rfl) ?_)))))))
  exact Zpv (x:=ZBt c) (cb:=sz h) (g:=λn=>n.blocked c.1 c.2.2.2.2.2.1) (ZtR (c:=c)) (d.ext a) (λj i=>by have:=b j i;have:sz h<=sz h1:=a.size;omega) c1 (λk=>by have:=b _ k;omega) (c:=c) hz
    λl m t2 o p=>Za (f _ l m t2 ((a.upd O).trans o) (ZtH a p))
def Tree.makes:List K4->Tree->Tree
  |[],t=>t
  |k::l,t=>Tree.makes l (t.make k)
def Tree.touchE(t:Tree)(c:C8):Int:=if Zj6 c≠0 then Zj6 c else if ¬t.room (Xu c)then 3 else 0
def Tree.touched(t:Tree)(c:C8):Tree:=if t.touchE c=0 then t.makes (Xu c)else t
theorem Zwp{h:Zf}{tb:Nat}{O:Nat->Prop}{t:Tree}(ht:Zbn h tb O t)(hO:∀j,O j->j<sz h){c:C8}(hz:Zkr c){cs:Sl}(I:Row h cs 7 (c8L c))(aM:∀b,cs.blk=some b->¬O b){K:Int->Zf->Prop}
    (v:∀h' O',Zbn h' tb O' (t.touched c)->Upd O h h'->Zyo O O' h h'->K (t.touchE c) h'):Zdk (some ⟨tb,0,none⟩) cs K h:=by
  have A:cs.len=1:=by have:=I.len;simp[c8L]at this;omega
  have no:∀e (d:Zf),Ext h d->e≠0->t.touchE c=e->K e d:=λe d e9 h1 Y=>by
    have:=v d O (by unfold Tree.touched;rw[if_neg (by rw[Y];exact h1)];exact ht.ext e9) (e9.upd _) ⟨λj f=>.inl f,λj f=>f⟩;rwa[Y]at this
  unfold Zdk ZfO;refine Za (ZB (Zaj (λp r=>Ext h r/\((p=(⟨none,0,0⟩,0,())/\r=h)\/(p.2.1=1/\Zj6 c=0/\Own r (sz h) p.1 4 ((Xu c).flatMap k4L)))) (λp _=>(1-p.2.1).toNat) ⟨Ext.refl _,.inl ⟨rfl,rfl⟩⟩ ?_));rintro⟨al,i,u⟩ r ⟨he,⟨Z,ae⟩ |⟨Z,hE,ho⟩⟩ Q hQ
  ·injection Z with p1 p2
   injection p2 with p2 p3;subst p1;subst p2;subst ae;dsimp only;rw[A];refine Xh ?_;obtain⟨b,o,ah,ai,w,a⟩:=Zab (α:=C8) (g:=c8L) (n:=7) (λ_=>rfl) (l:=[c]) (by simpa using I) (i:=0) rfl (by decide);have B:∀{K:Nat->Nat->Prop},K b o->Yk cs.ptr 1 0 7 K:=λ{K} v=>by have:=w (K:=K) (m:=0) rfl v;rwa[A]at this
   refine B (rI (a 0 _ rfl) (rS (a 1 _ rfl) (rS (a 2 _ rfl) (rS (a 3 _ rfl) (rB (a 4 _ rfl) (rI (a 5 _ rfl) (rL (a 6 _ rfl) (ZF λh1 c1 e1 z1=>ZaN c1 λY C u2 z2=>?_))))))));have e2:Ext r Y:=e1.then u2 λk v=>by subst v;exact Aqo _
   refine rI (Zb C rfl) (rS (Zb C rfl) (rS (Zb C rfl) (rS (Zb C rfl) (rB (Zb C rfl) (rI (Zb C rfl) (rL (Zb C rfl) ?_))))));refine ZoB (c:=c) hz λs h4 e4 o4=>Za (Zdt (λJ=>Za (no _ h4 (e2.trans e4) J (by unfold Tree.touchE;rw[if_pos J]))) λJ=>?_);rw[if_pos J]at o4;refine o4.row.rd ?_;have hlen:=o4.len;rw[YN Zfb]at hlen;have L:(Xu c).length=s.len:=Ayf (by decide) hlen;refine ZID (l:=[]) (Own.nil h4 (sz r) 4) L (by have:=ZqW c;simp only[Ayd];omega) (e2.trans e4).size λs5 y o5 _ u5=>hQ _ _ ⟨(e2.trans e4).then u5 λk v=>(by cases v),.inr ⟨rfl,J,o5⟩⟩ (show(1-IntKind.wrap .i64 (0+1)).toNat<(1-(0:Int)).toNat by decide)
  dsimp only at Z ho⊢;subst Z;rw[A];refine ZB (Zi (Zi ?_));have aS:=ZqW c;have t1:=ht.ext he;obtain⟨ks,M,ao,aT⟩:=t1.keys;refine rL M (ZpP t1 ho.row (ZkD c) (by omega) λy G=>?_);have t5:=t1.ext G;have N:Zy 1 (obj y tb)=some (slV ks):=by rw[ZQ G t1.lt];exact M
  refine⟨Yj N,?_⟩;rw[ao,Yw (by omega) (by omega)];have x:((t.freshN (Xu c):Int)>512-(t.keys.length:Int))↔¬t.room (Xu c):=by unfold Tree.room;omega
  refine Zn (λq5=>Za (no 3 y (he.trans G) (by decide) ?_)) λq5=>?_
  ·unfold Tree.touchE;rw[if_neg (λd=>d hE),if_pos (x.1 q5)]
  have hr:t.room (Xu c):=Classical.byContradiction λd=>q5 (x.2 d);have P:t.touchE c=0:=by unfold Tree.touchE;rw[if_neg (λd=>d hE),if_neg (λd=>d hr)]
  have hN:t.touched c=t.makes (Xu c):=by unfold Tree.touched;rw[if_pos P]
  rw[P,hN]at v;have hlen:=ho.row.len;rw[YN Zfb]at hlen;have L:al.len=(Xu c).length:=(Ayf (by decide) hlen).symm;have D:=he.trans G;have w5:sz h<=sz y:=D.size
  have rows:∀b,al.blk=some b->sz h<=b/\b<sz y:=λb hb=>by
    have d:sz h<=b/\b<sz r:=ho.lt hb;have:sz r<=sz y:=G.size;omega
  refine Zaj (λp r=>∃(i:Nat) (H:List K4) (t2:Tree) (O2:Nat->Prop),p=((i:Int),())/\i<=(Xu c).length/\(Xu c).drop i=H/\Tree.makes H t2=Tree.makes (Xu c) t/\Zbn r tb O2 t2/\t2.room H/\Upd O y r/\Zyo O O2 y r)
    (λp _=>(Xu c).length- p.1.toNat) ⟨0,_,t,O,rfl,Ayg _,rfl,rfl,t5,hr,Upd.refl _ _,λj f=>.inl f,λj f=>f⟩ ?_
  rintro _ R ⟨i,H,t2,O2,rfl,aV,E,S,T,au,hu,F,U⟩ Q hQ;have nO:∀j,sz h<=j->¬O j:=λj f d=>by have:=hO j d;omega
  have w6:sz y<=sz R:=hu.size;dsimp only;refine Zn (λq=>?_) λq=>?_
  ·have z:i<(Xu c).length:=by omega
   have hg:(Xu c)[i]?=some (Xu c)[i]:=Axy z;have V:H=(Xu c)[i]::(Xu c).drop (i+1):=by rw[<-E];exact Ayo z
   generalize (Xu c)[i]=k at hg V;subst V
   have av:k∉(Xu c).drop (i+1):=by
     have:=ZkD c;rw[<-Ayn i (Xu c),List.nodup_append]at this;rw[E]at this;exact(Ayp.1 this.2.1).1
   obtain⟨aw,ax⟩:=ZrR au av;have W:Row R al 4 ((Xu c).flatMap k4L):=(ho.row.ext G).congr λb o hb _ hl=>hu.old b hl (nO _ (rows b (by simp[Sl.blk,hb])).1);obtain⟨b,o,ah,ai,w,a⟩:=Zab Zfb W hg (by decide);have ay:IntKind.wrap .i64 ((i:Int)+1)=((i+1:Nat):Int):=wrS z (by omega);refine w rfl (rI (a 0 _ rfl) (rS (a 1 _ rfl) (rS (a 2 _ rfl) (rS (a 3 _ rfl) (ZF λh7 c7 e7 z7=>ZaN c7 λh8 c8 u8 z8=>?_)))));have e8:Ext R h8:=e7.then u8 λk v=>by subst v;exact Aqo _
   refine Zi (rI (Zb c8 rfl) (rS (Zb c8 rfl) (rS (Zb c8 rfl) (rS (Zb c8 rfl) ?_))));refine ZpB (k:=k) (T.ext e8) aw λd O9 t9 u9 g9 aB=>?_;have w8:sz R<=sz h8:=e8.size;have w9:sz h8<=sz d:=u9.size;rw[ay];refine hQ _ _ ⟨i+1,(Xu c).drop (i+1),t2.make k,O9,rfl,z,rfl,S,t9,ax,Znl (hu.trans (e8.upd O)) u9 λj f aC=>?_,?_,?_⟩ (by show(Xu c).length- ((i+1:Nat):Int).toNat<(Xu c).length- ((i:Nat):Int).toNat;omega)
   ·rcases F j aC with g|g
    ·exact g
    ·omega
   ·intro j f
    rcases g9 j f with g|g
    ·rcases F j g with g|g
     ·exact .inl g
     ·exact .inr (by omega)
    ·exact .inr (by omega)
   ·exact λj f=>aB j (U j f)
  ·have aD:H=[]:=by rw[<-E];exact Ayq (by omega)
   subst aD;have X:t2=Tree.makes (Xu c) t:=S;refine Za (v R O2 (by rw[<-X];exact T) ((D.upd O).trans hu) (ZtH D ⟨F,U⟩))
abbrev sA:ByteArray:=ByteArray.mk #[97]
abbrev F12:=ByteArray×ByteArray×Bool×Int×Int×ByteArray×Int×Int×Int×Bool×Int×Bool×Unit
abbrev B7:=ByteArray×Int×Int×Int×Int×Int×Int×Unit
def b7L(r:B7):List Value:=[.string r.1,.int .u8 r.2.1,iv r.2.2.1,iv r.2.2.2.1,iv r.2.2.2.2.1,iv r.2.2.2.2.2.1,iv r.2.2.2.2.2.2.1]
abbrev R5:=Sl×Sl×Sl×Sl×Sl×Unit
def r5L(r:R5):List Value:=[slV r.1,slV r.2.1,slV r.2.2.1,slV r.2.2.2.1,slV r.2.2.2.2.1]
theorem Zps{h h':Zf}{base:Nat}{s:Sl}{size:Nat}{vs:List Value}(ho:Own h base s size vs)(e:Ext h h'):Own h' base s size vs:=ho.congr λb _ hl _=>e.old b hl
theorem ZmG{h h':Zf}{base x:Nat}{s:Sl}{size:Nat}{vs:List Value}(ho:Own h base s size vs)(u:Upd (· = x) h h')(a:x<base):Own h' base s size vs:=ho.congr λb _ hl c=>u.old b hl (by omega)
theorem ZGN{h:Zf}{b:Nat}{l:List Value}{t:TypeId}(a:obj h b=some (.cells l.toArray t (0,0)))(c:List Value){o:Nat}{vs:List Value}{K:Zf->Prop}
    (d:∀h',obj h' b=some (.cells c.toArray t (0,0))->Upd (· = b) h h'->sz h'=sz h->K h') (ho:Nat.ble (o+vs.length) l.length=true:=by rfl) (hv:vs.all Zs=true:=by rfl) (e:Ze9 o vs l=c:=by rfl):sts h b o vs K:=by
  rw[Zph (by rw[a,Zjn,decide_eq_true_eq];exact Awt ho) hv];refine d _ ?_ (Zf5 (Upd.refl _ _) (.inr rfl)) ZiN;rw[ZlC,if_pos rfl,a,ZeO,e]
abbrev ZBT(r:R5)(g:Int):List Value:=r5L r++[iv g]
abbrev Znp(r:R5)(g:Int):Obj:=.cells (ZBT r g).toArray 97 (0,0)
abbrev r0:R5:=(⟨none,0,0⟩,⟨none,0,0⟩,⟨none,0,0⟩,⟨none,0,0⟩,⟨none,0,0⟩,())
theorem Zy3{h:Zf}{K:Option Addr->Zf->Prop}(a:∀h',obj h' (sz h)=some (Znp r0 0)->Ext h h'->sz h'=sz h+1->K (some ⟨sz h,0,none⟩) h'):Zch K h:=by unfold Zch ZgK;exact ZF λh1 c1 b c=>a h1 c1 b c
abbrev wL(w:W3):List Value:=[.int .u64 w.1,.int .u64 w.2.1,.bool w.2.2.1]
theorem ZPd(w:W3)(h1:0<=w.1/\w.1<18446744073709551616){c:Int}(V:c≠0)(D: -9223372036854775808<=c)(E:c<=9223372036854775807)(up:Bool):∃(n:Int) (ok:Bool),∀{K:Int->Bool->Zf->Prop} {h:Zf},(∀h',Ext h h'->K n ok h')->Zdp w c up K h:=by
  obtain⟨d,hd,F,G⟩:=Ztm c;have C:=F V D E;have H:0<=Int.tmod w.1 d:=Int.tmod_nonneg _ h1.1;have I:Int.tmod w.1 d<d:=Int.tmod_lt_of_pos _ (by omega);obtain⟨q,rem,hq,hdiv⟩:=ZBK (lo:=w.2.1) H I hd.2;generalize J:(w.2.2.1 !=decide (c<0))=B;generalize L:IntKind.wrap .u64 (Int.tdiv w.1 d)=hi
  have last:∀(a b:Int) (f:Bool),∃(n:Int) (ok:Bool),∀{K:Int->Bool->Zf->Prop} {h r:Zf} {wb:Nat},Ext h r->sz h<=wb->obj r wb=some (.cells (wL (a,b,f,())).toArray 361 (0,0))->(∀h',Ext h h'->K n ok h')->
      Zf1 (σ:=Unit) (λM i=>ldI i wb 0 .u64 λt26=>ldI i wb (0+1) .u64 λt27=>ldB i wb (0+2) λt28=>YT (t26,t27,t28,()) (λt29 t30 t=>Zc t29 λt32=>Zq t30 λt33=>K t32 t33 t) i) (λm=>
       ldI r wb 0 .u64 λt21=>ldI r wb (0+1) .u64 λt22=>Zk (bif t21==0 then(bif t22==0 then true else false)else false) (st r wb (0+2) (.bool false) λu=>m (()) u) (m (()) r)):=λa b f=>by
    by_cases z:(bif a==0 then(bif b==0 then true else false)else false)=true
    ·obtain⟨n,ok,N⟩:=ZnN (a,b,false,());refine⟨n,ok,λ{K h r wb} e o j l=>XX (rI (Zb j rfl) (rI (Zb j rfl) (Zm z (ZcS j (show 0+2<3 by decide) rfl λW v O X=>rI (Zb v rfl) (rI (Zb v rfl) (rB (Zb v rfl) (N λx y=>Za (Zd (l x ?_)))))))))⟩;exact(e.then O λk l=>by subst l;exact o).trans y
    ·obtain⟨n,ok,N⟩:=ZnN (a,b,f,());exact⟨n,ok,λ{K h r wb} e o j l=>XX (rI (Zb j rfl) (rI (Zb j rfl) (Zh (by simpa using z) (rI (Zb j rfl) (rI (Zb j rfl) (rB (Zb j rfl) (N λx y=>Za (Zd (l x (e.trans y))))))))))⟩
  have start:∀{K:Int->Bool->Zf->Prop} {h:Zf},(∀(g:Zf) (wb:Nat),Ext h g->sz h<=wb->obj g wb=some (.cells (wL (hi,q,B,())).toArray 361 (0,0))->
      Zf1 (σ:=Unit) (λs p=>Zf1 (σ:=Unit) (λM i=>ldI i wb 0 .u64 λt26=>ldI i wb (0+1) .u64 λt27=>ldB i wb (0+2) λt28=>YT (t26,t27,t28,()) (λt29 t30 t=>Zc t29 λt32=>Zq t30 λt33=>K t32 t33 t) i) (λm=>
       ldI p wb 0 .u64 λt21=>ldI p wb (0+1) .u64 λt22=>Zk (bif t21==0 then(bif t22==0 then true else false)else false) (st p wb (0+2) (.bool false) λu=>m (()) u) (m (()) p))) (λA=>
       Zk (rem !=0) (ldB g wb (0+2) λt15=>Zk (t15 !=up) (ldI g wb (0+1) .u64 λt16=>Zx (Int.toNat 0<=1)<|Zc (ZsE t16 1 0) λlo=>Zc (Zsu t16 1 0) λcarry=>ldI g wb 0 .u64 λt17=>sts g wb 0 [.int .u64 (IntKind.wrap .u64 (t17+carry)),.int .u64 lo] λP=>A (()) P) (A (()) g)) (A (()) g)))->Zdp w c up K h:=λ{K h} Y=>by
    unfold Zdp Zjf;refine ZF λh1 c1 Q z1=>Za (G (Za (rI (Zb c1 rfl) ⟨C,rI (Zb c1 rfl) (hdiv ⟨Yj (Zb c1 rfl),Za (Za (rI (Zb c1 rfl) ⟨C,rB (Zb c1 rfl) (ZF λh2 Z R z2=>⟨Yj (Zb (Zj c1 R) rfl),Yj (Zb (Zj c1 R) rfl),?_⟩)⟩))⟩)⟩)));rw[J,L];exact ZaN Z λh3 c3 u3 z3=>Y h3 _ ((Q.trans R).then u3 λk l=>by subst l;exact Q.size) Q.size c3
  by_cases r0:rem=0
  ·obtain⟨n,ok,hl⟩:=last hi q B;exact⟨n,ok,λ{K h} l=>start λg wb e o j=>XX (Zh (by rw[r0];rfl) (hl e o j l))⟩
  ·by_cases U:(B !=up)=true
   ·obtain⟨n,ok,hl⟩:=last (IntKind.wrap .u64 (hi+Zsu q 1 0)) (ZsE q 1 0) B;refine⟨n,ok,λ{K h} l=>start λg wb e o j=>XX (Zm (by simpa using r0) (rB (Zb j rfl) (Zm U (rI (Zb j rfl) ⟨by decide,Za (Za (rI (Zb j rfl) (ZGN j (wL (IntKind.wrap .u64 (hi+Zsu q 1 0),ZsE q 1 0,B,())) λae S T af=>hl ?_ o S l)))⟩))))⟩;exact e.then T λk l=>by subst l;exact o
   ·obtain⟨n,ok,hl⟩:=last hi q B;exact⟨n,ok,λ{K h} l=>start λg wb e o j=>XX (Zm (by simpa using r0) (rB (Zb j rfl) (Zh (by simpa using U) (hl e o j l))))⟩
theorem ZsG(a b:Int){c:Int}(d: -9223372036854775808<=c)(f:c<=9223372036854775807)(up:Bool):∃(n e:Int),∀{K:Int->Int->Zf->Prop} {h:Zf},(∀h',Ext h h'->K n e h')->Zc2 a b c up K h:=by
  by_cases q:c=0
  ·refine⟨0,9,λ{K h} g=>?_⟩;unfold Zc2 ZhZ;exact Za (Za (Zm (by rw[q];rfl) (Za (Za (g h (Ext.refl _))))))
  ·obtain⟨w,w1,p,j⟩:=Zpq a b;obtain⟨n,ok,k⟩:=ZPd w w1 q d f up;refine⟨if ok=true then n else 0,if ok=true then 0 else 8,λ{K h} g=>?_⟩;unfold Zc2 ZhZ;have i:∀{K:Int->Bool->Zf->Prop} {h:Zf},(∀h',Ext h h'->K n ok h')->Zdp (w.1,w.2.1,w.2.2.1,()) c up K h:=k;exact Za (Za (Zh (by simpa using q) (j λh1 l=>i λm o=>Znm (Za (Za (g m (l.trans o)))))))
abbrev Pc:=Int×Bool×Int×Int×Int×Unit
abbrev pcL(p:Pc):List Value:=[iv p.1,.bool p.2.1,iv p.2.2.1,iv p.2.2.2.1,iv p.2.2.2.2.1]
abbrev pcO(p:Pc):Obj:=.cells (pcL p).toArray 221 (0,0)
theorem Zy6{count queue:Int}(h1:1<=count/\count<=1099511627776)(d:0<=queue/\queue<=3600000000){K:Option Addr->Int->Zf->Prop}{h:Zf}(a:∀h',obj h' (sz h)=some (pcO (0,false,count,queue,0,()))->Ext h h'->sz h'=sz h+1->K (some ⟨sz h,0,none⟩) 0 h'):Zgq count queue K h:=by unfold Zgq Zkm;exact Za (Zn (λq=>by omega) λ_=>Zn (λq=>by omega) λ_=>Zn (λq=>by omega) λ_=>Zn (λq=>by omega) λ_=>ZF λh1 c1 b c=>Za (a h1 c1 b c))
theorem ZFm(count a:Int):∃cost err:Int,∀{K:Int->Int->Zf->Prop} {h:Zf},(∀h',Ext h h'->K cost err h')->Zao count a K h:=by
  by_cases d:count<1
  ·exact⟨0,2,λ{K h} b=>by unfold Zao Zb5;exact Za (Za (Zm (decide_eq_true d) (Za (Za (b h (Ext.refl _))))))⟩
  by_cases f:count>1099511627776
  ·exact⟨0,2,λ{K h} b=>by unfold Zao Zb5;exact Za (Za (Zh (decide_eq_false d) (Zm (decide_eq_true f) (Za (Za (b h (Ext.refl _)))))))⟩
  by_cases g:a<1
  ·exact⟨0,2,λ{K h} b=>by unfold Zao Zb5;exact Za (Za (Zh (decide_eq_false d) (Zh (decide_eq_false f) (Zm (decide_eq_true g) (Za (Za (b h (Ext.refl _))))))))⟩
  by_cases i:a>1099511627776
  ·exact⟨0,2,λ{K h} b=>by unfold Zao Zb5;exact Za (Za (Zh (decide_eq_false d) (Zh (decide_eq_false f) (Zh (decide_eq_false g) (Zm (decide_eq_true i) (Za (Za (b h (Ext.refl _)))))))))⟩
  obtain⟨n,e,hm⟩:=ZsG count 1000000 (c:=a) (by omega) (by omega) true;exact⟨n,e,λ{K h} b=>by unfold Zao Zb5;exact Za (Za (Zh (decide_eq_false d) (Zh (decide_eq_false f) (Zh (decide_eq_false g) (Zh (decide_eq_false i) (hm λh1 j=>Za (Za (b h1 j))))))))⟩
theorem Zr2{p:Pc}{b:Nat}{h:Zf}(a:obj h b=some (pcO p)){K:Int->Bool->Zf->Prop}(c:K p.1 p.2.1 h):X6 (some ⟨b,0,none⟩) K h:=by unfold X6 Zft;exact Za (Zi (rI (Zb a rfl) (Zi (rB (Zb a rfl) (Za (Zd c))))))
theorem Zpr{p:Pc}{b:Nat}{h:Zf}(a:obj h b=some (pcO p)){K:Int->Zf->Prop}(c:K p.2.2.1 h):Zbd (some ⟨b,0,none⟩) K h:=by unfold Zbd Zfu;exact Za (Zh rfl (Zi (rI (Zb a rfl) (Za c))))
theorem ZEQ(p:Pc)(at_ cost:Int):∃d:Int,∀{b:Nat} {h:Zf} {J:Int×Unit->Zf->Prop},obj h b=some (pcO p)->(∀h',Ext h h'->J (d,()) h')->Ze (some ⟨b,0,none⟩) λf g=>X6 (some ⟨f,g,none⟩) (λt21 t22 e=>Zc t21 λt24=>Zq t22 λsome_=>Zk some_ (
      newC e [iv t24,iv cost] 3 λi j=>Zdq ⟨some ⟨i,0,none⟩,2,2⟩ (λt27 l=>Zc (ZiE at_ t27) λc=>J (c,()) l) j) (J (at_,()) e)) h:=by
  obtain⟨a,s,rest⟩:=p;obtain⟨v,hv⟩:=Zu3 a cost
  cases s with
  |true=>exact⟨ZiE at_ v,λ{b h J} m o=>Zi (Zr2 m (Za (Zd (Xh (ZF λh1 c1 q r=>hv (ZBX (k:=2) (n:=1) c1 rfl (by decide)) (Za (o h1 q)))))))⟩
  |false=>exact⟨at_,λ{b h J} m o=>Zi (Zr2 m (Za (Zd (ZB (o h (Ext.refl _))))))⟩
def Pc.went(p:Pc)(at_:Int):Option (Int×Bool)->Pc
  |none=>p
  |some (a,ok)=>if ok=true then(a,true,p.2.2.1,p.2.2.2.1,at_,())else(p.1,p.2.1,p.2.2.1,p.2.2.2.1,at_,())
def ZH3(p:Pc)(at_ count a:Int)(R:Int×Bool×Int):Prop:=∀{b:Nat} {h:Zf} {K:Int->Bool->Int->Zf->Prop},obj h b=some (pcO p)->(∀h',Ext h h'->K R.1 R.2.1 R.2.2 h')->Z1 (some ⟨b,0,none⟩) at_ count a K h
def ZH4(p:Pc)(at_ count a:Int)(R:Int×Bool×Int)(g:Option (Int×Bool)):Prop:=∀{b cb:Nat} {h:Zf} {K:Int->Bool->Int->Zf->Prop},obj h b=some (pcO p)->obj h cb=some (.cells [iv at_].toArray 3 (0,0))->cb≠b->(∀h',obj h' b=some (pcO (p.went at_ g))->Upd (· = b) h h'->K R.1 R.2.1 R.2.2 h')->Z0 (some ⟨b,0,none⟩) at_ count a (some ⟨cb,0,none⟩,()) K h
theorem ZtU(p:Pc)(at_ count f:Int):∃R g,ZH3 p at_ count f R/\ZH4 p at_ count f R g:=by
  obtain⟨cost,err,c⟩:=ZFm count f;obtain⟨a,l⟩:=ZEQ p at_ cost
  have bad:∀R:Int×Bool×Int,(∀{b:Nat} {h k:Zf} {K:Int->Bool->Int->Zf->Prop} {X:Prop},obj k b=some (pcO p)->Ext h k->K R.1 R.2.1 R.2.2 k->(Zk (decide (at_<0)) (Zc 0 λt7=>Zc 2 λt8=>K t7 false t8 k) (Zk (decide (at_>1152921504606846976)) (Zc 0 λt9=>Zc 2 λt10=>K t9 false t10 k) (Zq (err !=0) λt11=>Zk t11 (Zc 0 λt12=>Zc 2 λt13=>K t12 false t13 k) (
        Ze (some ⟨b,0,none⟩) λb o=>ldI k b (o+4) .i64 λt14=>Zq (decide (at_<t14)) λt15=>Zk t15 (Zc 0 λt16=>Zc 7 λt17=>K t16 false t17 k) X)))))->ZH3 p at_ count f R/\ZH4 p at_ count f R none:=λR B=>by
    refine⟨λ{b h K} d i=>?_,λ{b cb h K} d q E i=>?_⟩
    ·unfold Z1 Yy;exact Za (Za (Zh rfl (c λh1 j=>Za (Za (B (Zj d j) j (i h1 j))))))
    ·unfold Z0 YW;exact Za (Za (Zh rfl (c λh1 j=>Za (Za (B (Zj d j) j (i h1 (Zj d j) (j.upd _)))))))
  by_cases m:at_<0
  ·exact⟨(0,false,2),none,bad (0,false,2) λ{b h k K X} d e i=>Zm (decide_eq_true m) (Za (Za i))⟩
  by_cases r:at_>1152921504606846976
  ·exact⟨(0,false,2),none,bad (0,false,2) λ{b h k K X} d e i=>Zh (decide_eq_false m) (Zm (decide_eq_true r) (Za (Za i)))⟩
  by_cases v:err=0
  case neg=>exact⟨(0,false,2),none,bad (0,false,2) λ{b h k K X} d e i=>Zh (decide_eq_false m) (Zh (decide_eq_false r) (Zd (Zm (by simpa using v) (Za (Za i)))))⟩
  by_cases w:at_<p.2.2.2.2.1
  ·exact⟨(0,false,7),none,bad (0,false,7) λ{b h k K X} d e i=>Zh (decide_eq_false m) (Zh (decide_eq_false r) (Zd (Zh (by rw[v];rfl) (Zi (rI (Zb d rfl) (Zd (Zm (decide_eq_true w) (Za (Za i)))))))))⟩
  have t:(err !=0)=false:=by rw[v];rfl
  generalize u:decide (IntKind.wrap .i64 (a- at_)<=p.2.2.2.1)=ok;refine⟨(if ok=true then IntKind.wrap .i64 (a- at_)else 0,ok,0),some (a,ok),λ{b h K} d i=>?_,λ{b cb h K} d q E i=>?_⟩
  ·unfold Z1 Yy;refine Za (Za (Zh rfl (c λh1 j=>Za (Za (Zh (decide_eq_false m) (Zh (decide_eq_false r) (Zd (Zh t (Zi (rI (Zb (Zj d j) rfl) (Zd (Zh (decide_eq_false w) (Za (ZoF (λ(s:Int×Unit) n=>s=(a,())/\Ext h n) ?_ λQ x=>l (Zj d j) λy z=>x _ _ ⟨rfl,j.trans z⟩))))))))))))));rintro _ n ⟨rfl,ex⟩;refine Zi (rI (Zb (Zj d ex) rfl) (Zd ?_));unfold ZdF ZdU;have A:decide (IntKind.wrap .i64 ((a,()).1-at_)<=p.2.2.2.1)=ok:=u;rw[A];have:=i n ex
   cases ok with
   |true=>exact Zh rfl (Za (Za this))
   |false=>exact Zm rfl (Za (Za this))
  ·unfold Z0 YW;refine Za (Za (Zh rfl (c λh1 j=>Za (Za (Zh (decide_eq_false m) (Zh (decide_eq_false r) (Zd (Zh t (Zi (rI (Zb (Zj d j) rfl) (Zd (Zh (decide_eq_false w) (Za (ZoF (λ(s:Int×Unit) n=>s=(a,())/\Ext h n) ?_ λQ x=>l (Zj d j) λy z=>x _ _ ⟨rfl,j.trans z⟩))))))))))))));rintro _ n ⟨rfl,ex⟩;refine Zi (rI (Zb (Zj d ex) rfl) (Zd ?_));unfold Zho ZhB;have A:decide (IntKind.wrap .i64 ((a,()).1-at_)<=p.2.2.2.1)=ok:=u;rw[A];refine Zi (rI (Zb (Zj q ex) rfl) (Zi (ZcS (Zj d ex) (show 0+4<5 by decide) rfl λy C D H=>?_)))
   cases ok with
   | true=>
     refine Xh (Zi (ZGN C (pcL (a,true,p.2.2.1,p.2.2.2.1,at_,())) λh3 F G z3=>Zh rfl (Za (Za (i h3 ?_ ?_)))))
     ·have e:p.went at_ (some (a,true))=(a,true,p.2.2.1,p.2.2.2.1,at_,()):=by simp[Pc.went]
      rw[e];exact F
     ·exact((ex.upd _).trans D).trans G
   | false=>
     refine ZB (Zm rfl (Za (Za (i y ?_ ?_))))
     ·have e:p.went at_ (some (a,false))=(p.1,p.2.1,p.2.2.1,p.2.2.2.1,at_,()):=by simp[Pc.went]
      rw[e];exact C
     ·exact(ex.upd _).trans D
theorem Zu4(p:Pc)(at_ count:Int):∃R:Int×Bool×Int,∀{b:Nat} {h:Zf} {K:Int->Bool->Int->Zf->Prop},obj h b=some (pcO p)->(∀h',Ext h h'->K R.1 R.2.1 R.2.2 h')->ZcJ (some ⟨b,0,none⟩) at_ count K h:=by obtain⟨R,g,c,_⟩:=ZtU p at_ count p.2.2.1;refine⟨R,λ{b h K} a d=>?_⟩;unfold ZcJ Zfv;exact Za (Za (Zpr a (c a λh1 e=>Za (Zd (Za (d h1 e))))))
theorem Zu5(p:Pc)(at_ count a:Int):∃(R:Int×Bool×Int) (e:Pc),∀{b:Nat} {h:Zf} {K:Int->Bool->Int->Zf->Prop},obj h b=some (pcO p)->(∀h',obj h' b=some (pcO e)->Upd (· = b) h h'->K R.1 R.2.1 R.2.2 h')->Zci (some ⟨b,0,none⟩) at_ count a K h:=by obtain⟨R,g,_,f⟩:=ZtU p at_ count a;refine⟨R,p.went at_ g,λ{b h K} c i=>?_⟩;unfold Zci ZgN Ze0 Zg4;refine Za (Za (ZF λh1 c1 d m=>f (Zj c d) c1 (by have:=Zp c;simp only[YR];omega) λj k l=>Za (Zd (Za (i j k ((d.upd _).trans l))))))
theorem ZCj(p:Pc)(at_ count:Int):∃d:Pc,∀{b:Nat} {h:Zf} {K:Int->Bool->Int->Zf->Prop},obj h b=some (pcO p)->(∀h' w ok e,obj h' b=some (pcO d)->Upd (· = b) h h'->K w ok e h')->Zee (some ⟨b,0,none⟩) at_ count K h:=by obtain⟨R,g,_,f⟩:=ZtU p at_ count p.2.2.1;refine⟨p.went at_ g,λ{b h K} a i=>?_⟩;unfold Zee ZgM Ze0 Zg4;refine Za (Za (Zpr a (ZF λh1 c1 c m=>f (Zj a c) c1 (by have:=Zp a;simp only[YR];omega) λj k l=>Za (Zd (Za (i j _ _ _ k ((c.upd _).trans l)))))))
theorem Zwu{p:Pc}{b:Nat}{h:Zf}{K:Option Addr->Zf->Prop}(a:obj h b=some (pcO p))(c:∀h',obj h' (sz h)=some (pcO p)->Ext h h'->sz h'=sz h+1->K (some ⟨sz h,0,none⟩) h'):ZcK (some ⟨b,0,none⟩) K h:=by unfold ZcK Zfw;refine Zh rfl (Zi (rI (Zb a rfl) (rB (Zb a rfl) (rI (Zb a rfl) (rI (Zb a rfl) (rI (Zb a rfl) (ZF λh1 c1 d e=>ZaN c1 λf g i j=>c f g (d.then i λk c=>by subst c;exact Aqo _) (j.trans e))))))))
abbrev Wm:=Int×Int×Int×Int×Int×Int×Int×Unit
abbrev wmL(w:Wm):List Value:=[iv w.1,iv w.2.1,iv w.2.2.1,iv w.2.2.2.1,iv w.2.2.2.2.1,iv w.2.2.2.2.2.1,iv w.2.2.2.2.2.2.1]
abbrev wmO(w:Wm):Obj:=.cells (wmL w).toArray 225 (0,0)
def Wm.new(count a:Int):Wm:=(count,a,IntKind.wrap .i64 (Int.tdiv (IntKind.wrap .i64 (IntKind.wrap .i64 (a*count)+1)) 2),IntKind.wrap .i64 (a*count),0, -1,0,())
theorem Zy0{count a:Int}(h1:1<=count/\count<=1099511627776)(e:1<=a/\a<=3600){K:Option Addr->Int->Zf->Prop}{h:Zf}(b:∀h',obj h' (sz h)=some (wmO (Wm.new count a))->Ext h h'->sz h'=sz h+1->K (some ⟨sz h,0,none⟩) 0 h'):Zgo count a K h:=by unfold Zgo Zkb;exact Za (Zn (λq=>by omega) λ_=>Zn (λq=>by omega) λ_=>Zn (λq=>by omega) λ_=>Zn (λq=>by omega) λ_=>Za ⟨by decide,ZF λh1 c1 c d=>Za (b h1 c1 c d)⟩)
theorem ZoA{w:Wm}{b:Nat}{h:Zf}{K:Option Addr->Zf->Prop}(a:obj h b=some (wmO w))(c:∀h',obj h' (sz h)=some (wmO w)->Ext h h'->sz h'=sz h+1->K (some ⟨sz h,0,none⟩) h'):Za3 (some ⟨b,0,none⟩) K h:=by unfold Za3 Zfh;refine Zh rfl (Zi (rI (Zb a rfl) (rI (Zb a rfl) (rI (Zb a rfl) (rI (Zb a rfl) (rI (Zb a rfl) (rI (Zb a rfl) (rI (Zb a rfl) (ZF λh1 c1 d e=>ZaN c1 λf g i j=>c f g (d.then i λk c=>by subst c;exact Aqo _) (j.trans e))))))))))
def ZHf(n:Int):Bool:=decide (0<=n)&&decide (n<=4611686018427387904)
theorem ZBa{n:Int}{K:Bool->Zf->Prop}{h:Zf}(a:K (ZHf n) h):ZhP n K h:=by
  unfold ZhP Zka;unfold ZHf at a;refine Zn (λq=>Zd ?_) λq=>?_
  ·rw[decide_eq_true (show 0<=n from q),Aqa]at a;exact a
  ·rw[decide_eq_false (show ¬ 0<=n from q),Aqb]at a;exact a
def Zgj(w:Wm)(at_:Int)(l:List Int):Int:=if at_<0 then 2 else if at_>1152921504606846976 then 2 else if l.all ZHf=false then 2 else if at_<w.2.2.2.2.2.2.1 then 7 else 0
theorem Zl2{w:Wm}{b:Nat}{h:Zf}(r:obj h b=some (wmO w)){at_:Int}{l:List Int}(hl:l.length<=100){s:Sl}(hs:Row h s 1 (l.map iv)){K:Int->Zf->Prop}(a:K (Zgj w at_ l) h):Za2 (some ⟨b,0,none⟩) at_ s K h:=by
  unfold Za2 Zfd;unfold Zgj at a;have t:s.len=l.length:=by have:=hs.len;simp at this;omega
  refine Za (Zh rfl (Zn (λq=>Za ?_) λq=>Zn (λg=>Za ?_) λg=>?_))
  ·rw[if_pos q]at a;exact a
  ·rw[if_neg q,if_pos g]at a;exact a
  rw[if_neg q,if_neg g]at a;refine Zaj (λp o=>∃i:Nat,p=((i:Int),())/\i<=l.length/\o=h/\(l.take i).all ZHf=true) (λp _=>l.length- p.1.toNat) ⟨0,rfl,Ayg _,rfl,rfl⟩ ?_;rintro _ o ⟨i,rfl,u,j,k⟩ Q y;subst j;dsimp only;refine Zn (λz=>?_) λz=>?_
  ·have c:i<l.length:=by omega
   have f:l[i]?=some l[i]:=Axy c;generalize l[i]=x at f;refine hs.idx (n:=i) (v:=iv x) rfl (by rw[Awy,f];rfl) λA B _ m=>⟨x,m,Za (ZBa ⟨λd=>Za ?_,λd=>?_⟩)⟩
   ·have:l.all ZHf=false:=List.all_eq_false.2 ⟨x,Axo f,by simpa using d⟩;rw[if_pos this]at a;exact a
   ·rw[wrS c (by omega)];refine y _ _ ⟨i+1,rfl,c,rfl,?_⟩ (by show l.length- ((i+1:Nat):Int).toNat<l.length- ((i:Nat):Int).toNat;omega);rw[Aym,f,Ayr,k];simpa using d
  ·have e:l.take i=l:=Awd (by omega);rw[e]at k;rw[if_neg (by rw[k];decide)]at a;refine Zi (rI (Zb r rfl) (Zn (λd=>Za ?_) λd=>Za ?_))
   ·rw[if_pos d]at a;exact a
   ·rw[if_neg d]at a;exact a
theorem ZEW(w:Wm)(at_ past:Int):∃tokens second:Int,∀{b:Nat} {h:Zf} {K:Int->Int->Zf->Prop},obj h b=some (wmO w)->(∀h',Ext h h'->K tokens second h')->XZ (some ⟨b,0,none⟩) at_ past K h:=by
  generalize l:IntKind.wrap .i64 (at_-Int.tmod at_ 1000000)=sec
  by_cases q1:sec=w.2.2.2.2.2.1
  ·refine⟨w.2.2.2.2.1,sec,λ{b h K} a H=>?_⟩;unfold XZ ZcM;refine Za (Za ⟨by decide,Za ?_⟩);rw[l];exact Zi (rI (Zb a rfl) (Zm (by simpa using q1) (Zi (rI (Zb a rfl) (Za (Za (H h (Ext.refl _))))))))
  have I:(sec==w.2.2.2.2.2.1)=false:=by simpa using q1
  have pre:∀(T:Int),(∀{b:Nat} {h:Zf} {J:Int×Unit->Zf->Prop},obj h b=some (wmO w)->(∀h',Ext h h'->J (T,()) h')->
      Ze (some ⟨b,0,none⟩) λL M=>ldI h L (M+5) .i64 λt14=>Zq (decide (t14<0)) λt15=>Zk t15 (Ze (some ⟨b,0,none⟩) λN O=>ldI h N (O+3) .i64 λt18=>Zc t18 λc=>J (c,()) h) (
       Ze (some ⟨b,0,none⟩) λP R=>ldI h P (R+4) .i64 λt22=>Ze (some ⟨b,0,none⟩) λS U=>ldI h S (U+2) .i64 λt25=>Zk (decide (t22<t25)) (
        Ze (some ⟨b,0,none⟩) λV W=>Ze (some ⟨b,0,none⟩) λy z=>ldI h V W .i64 λt30=>ldI h y (z+5) .i64 λt31=>Zx ((1000000:Int)≠0)<|
        Zc1 t30 (IntKind.wrap .i64 (Int.tdiv (IntKind.wrap .i64 (sec- t31)) 1000000)) (λt32 o=>Zx (Zo o [(y,z+5,iv t31)])<|Zc t32 λf=>Ze (some ⟨b,0,none⟩) λp q=>ldI o p (q+3) .i64 λt36=>
         newC o [iv w.2.2.2.2.1,iv f] 3 λX A=>Zx (Zo A [(p,q+3,iv t36)])<|Zdq ⟨some ⟨X,0,none⟩,2,2⟩ (λt39 B=>Zx (Zo B [(p,q+3,iv t36)])<|Zc (ZqT t39 t36) λd=>J (d,()) B) A) h) (
        Ze (some ⟨b,0,none⟩) λY Z=>ldI h Y Z .i64 λt44=>Zx ((3:Int)≠0)<|Zq (decide (past<(IntKind.wrap .i64 (Int.tdiv t44 3)))) λt45=>Zk t45 (
         Ze (some ⟨b,0,none⟩) λaa ab=>Ze (some ⟨b,0,none⟩) λC D=>ldI h aa ab .i64 λt50=>ldI h C (D+5) .i64 λt51=>Zx ((1000000:Int)≠0)<|
         Zc1 t50 (IntKind.wrap .i64 (Int.tdiv (IntKind.wrap .i64 (sec- t51)) 1000000)) (λt52 r=>Zx (Zo r [(C,D+5,iv t51)])<|Zc t52 λj=>Ze (some ⟨b,0,none⟩) λt u=>ldI r t (u+3) .i64 λt57=>
          newC r [iv w.2.2.2.2.1,iv j] 3 λae E=>Zx (Zo E [(t,u+3,iv t57)])<|Zdq ⟨some ⟨ae,0,none⟩,2,2⟩ (λt60 F=>Zx (Zo F [(t,u+3,iv t57)])<|Zc (ZqT t60 t57) λe=>J (e,()) F) E) h) (
         J (w.2.2.2.2.1,()) h))))->∃tokens second:Int,∀{b:Nat} {h:Zf} {K:Int->Int->Zf->Prop},obj h b=some (wmO w)->(∀h',Ext h h'->K tokens second h')->XZ (some ⟨b,0,none⟩) at_ past K h:=λT hT=>by
    refine⟨ZiE (IntKind.wrap .i64 (T- past)) 0,sec,λ{b h K} a H=>?_⟩;unfold XZ ZcM;refine Za (Za ⟨by decide,Za ?_⟩);rw[l];refine Zi (rI (Zb a rfl) (Zh I (Zi (rI (Zb a rfl) (Za (ZoF (λ(s:Int×Unit) hx=>s=(T,())/\Ext h hx) ?_ λQ hQ=>hT a λh' e'=>hQ _ _ ⟨rfl,e'⟩))))));rintro _ hx ⟨rfl,ex⟩;exact Za (Za (H hx ex))
  by_cases G:w.2.2.2.2.2.1<0
  ·exact pre w.2.2.2.1 λ{b h J} a v=>Zi (rI (Zb a rfl) (Zd (Zm (decide_eq_true G) (Zi (rI (Zb a rfl) (Za (v h (Ext.refl _))))))))
  obtain⟨f,g⟩:=ZBF w.1 (IntKind.wrap .i64 (Int.tdiv (IntKind.wrap .i64 (sec- w.2.2.2.2.2.1)) 1000000));obtain⟨sum,m⟩:=Zu3 w.2.2.2.2.1 f
  by_cases q3:w.2.2.2.2.1<w.2.2.1
  ·refine pre (ZqT sum w.2.2.2.1) λ{b h J} a v=>Zi (rI (Zb a rfl) (Zd (Zh (decide_eq_false G) (Zi (rI (Zb a rfl) (Zi (rI (Zb a rfl) (Zm (decide_eq_true q3) (Zi (Zi (rI (Zb a rfl) (rI (Zb a rfl) ⟨by decide,g _ _ λh1 i=>⟨Yj (Zb (Zj a i) rfl),Za (Zi (rI (Zb (Zj a i) rfl) (ZF λh2 c2 x z2=>⟨Yj (Zb (Zj (Zj a i) x) rfl),m (ZBX (k:=2) (n:=1) c2 rfl (by decide)) ⟨Yj (Zb (Zj (Zj a i) x) rfl),Za (v h2 (i.trans x))⟩⟩)))⟩⟩))))))))))))
  by_cases q4:past<IntKind.wrap .i64 (Int.tdiv w.1 3)
  ·refine pre (ZqT sum w.2.2.2.1) λ{b h J} a v=>Zi (rI (Zb a rfl) (Zd (Zh (decide_eq_false G) (Zi (rI (Zb a rfl) (Zi (rI (Zb a rfl) (Zh (decide_eq_false q3) (Zi (rI (Zb a rfl) ⟨by decide,Zd (Zm (decide_eq_true q4) (Zi (Zi (rI (Zb a rfl) (rI (Zb a rfl) ⟨by decide,g _ _ λh1 i=>⟨Yj (Zb (Zj a i) rfl),Za (Zi (rI (Zb (Zj a i) rfl) (ZF λh2 c2 x z2=>⟨Yj (Zb (Zj (Zj a i) x) rfl),m (ZBX (k:=2) (n:=1) c2 rfl (by decide)) ⟨Yj (Zb (Zj (Zj a i) x) rfl),Za (v h2 (i.trans x))⟩⟩)))⟩⟩)))))⟩))))))))))
  ·exact pre w.2.2.2.2.1 λ{b h J} a v=>Zi (rI (Zb a rfl) (Zd (Zh (decide_eq_false G) (Zi (rI (Zb a rfl) (Zi (rI (Zb a rfl) (Zh (decide_eq_false q3) (Zi (rI (Zb a rfl) ⟨by decide,Zd (Zh (decide_eq_false q4) (v h (Ext.refl _)))⟩))))))))))
theorem Zvy(n:Int): -9223372036854775808<=IntKind.wrap .i64 n/\IntKind.wrap .i64 n<=9223372036854775807:=by
  unfold IntKind.wrap;have b:(2:Int) ^ IntKind.i64.bits=18446744073709551616:=by decide
  have a:(2:Int) ^ (IntKind.i64.bits- 1)=9223372036854775808:=by decide
  have hs:IntKind.i64.signed=true:=rfl;simp only[b,a,hs,Aqa];split
  ·rename_i q;have:=of_decide_eq_true q;omega
  ·rename_i q;have:¬_:=λh=>q (decide_eq_true h);omega
theorem ZD8(c:Int×Int×Int×Int×Unit)(tokens:Int):ZPg (Zaz c tokens):=by
  obtain⟨c1,m,f,g,u⟩:=c
  have start:∀(r:Int),(∀{h1:Zf} {b:Nat} {K:Int->Zf->Prop},obj h1 b=some (.cells [iv c1,iv m,iv f,iv g].toArray 223 (0,0))->(∀h',Ext h1 h'->K r h')->ldI h1 b (0+2) .i64 λt2=>Zk (decide (tokens<t2)) (ldI h1 b 0 .i64 λt3=>Zc t3 λt4=>K t4 h1) (
      ldI h1 b (0+2) .i64 λt5=>ldI h1 b (0+3) .i64 λt6=>Zk (t5==t6) (ldI h1 b 0 .i64 λt7=>Zc t7 λt8=>K t8 h1) (ldI h1 b (0+3) .i64 λt9=>ldI h1 b 0 .i64 λt10=>ldI h1 b (0+2) .i64 λt11=>ldI h1 b (0+3) .i64 λt12=>
        Zc2 t9 t10 (IntKind.wrap .i64 ((IntKind.wrap .i64 ((4:Int)*(IntKind.wrap .i64 (tokens- t11))))+t12)) false (λt13 t14 i=>Zc t13 λr=>Zc t14 λx=>Zc (ZiE r 1) λt16=>K t16 i) h1)))->ZPg (Zaz (c1,m,f,g,u) tokens):=λr p=>⟨r,λK h d=>by
    unfold Zaz Zem
    exact ZF λh1 c1 q w=>Za (p c1 λh' s=>d h' (q.trans s))⟩
  by_cases j:tokens<f
  ·exact start c1 λ{h1 b K} a d=>rI (Zb a rfl) (Zm (decide_eq_true j) (rI (Zb a rfl) (Za (d h1 (Ext.refl _)))))
  by_cases o:f=g
  ·exact start c1 λ{h1 b K} a d=>rI (Zb a rfl) (Zh (decide_eq_false j) (rI (Zb a rfl) (rI (Zb a rfl) (Zm (by simpa using o) (rI (Zb a rfl) (Za (d h1 (Ext.refl _))))))))
  obtain⟨k,l⟩:=Zvy (IntKind.wrap .i64 (4*IntKind.wrap .i64 (tokens- f))+g);obtain⟨n,e,hm⟩:=ZsG g c1 k l false;exact start (ZiE n 1) λ{h1 b K} a d=>rI (Zb a rfl) (Zh (decide_eq_false j) (rI (Zb a rfl) (rI (Zb a rfl) (Zh (by simpa using o) (rI (Zb a rfl) (rI (Zb a rfl) (rI (Zb a rfl) (rI (Zb a rfl) (hm λt v=>Za (Za (Za (d t v))))))))))))
theorem Zm8(w:Wm)(at_ past:Int):∃(r e:Int) (w':Wm),∀{b:Nat} {h:Zf} {K:Int->Int->Zf->Prop},obj h b=some (wmO w)->(∀h',obj h' b=some (wmO w')->Upd (· = b) h h'->K r e h')->Xe (some ⟨b,0,none⟩) at_ past K h:=by
  by_cases q:Zgj w at_ [past]=0
  case neg=>
    refine⟨0,Zgj w at_ [past],w,λ{b h K} d f=>?_⟩;unfold Xe ZcN;exact Za (Za (ZF λh1 c1 c k=>Zl2 (Zj d c) (l:=[past]) (show 1<=100 by decide) (ZkO c1 rfl) (Za (Zm (by simpa using q) (Za (Za (f h1 (Zj d c) (c.upd _))))))))
  obtain⟨tk,g,m⟩:=ZEW w at_ past;obtain⟨r,n⟩:=ZD8 (w.1,w.2.1,w.2.2.1,w.2.2.2.1,()) tk;refine⟨r,0,(w.1,w.2.1,w.2.2.1,w.2.2.2.1,tk,g,at_,()),λ{b h K} d f=>?_⟩;unfold Xe ZcN;refine Za (Za (ZF λh1 c1 c k=>Zl2 (Zj d c) (l:=[past]) (show 1<=100 by decide) (ZkO c1 rfl) (Za (Zh (by rw[q];rfl) (m (Zj d c) λz i=>Zi (ZcS (Zj (Zj d c) i) (show 0+4<7 by decide) rfl λh3 o p z3=>Zi (ZcS o (show 0+5<7 by decide) rfl λA s t z4=>Zi (ZcS s (show 0+6<7 by decide) rfl λu v x z5=>?_))))))));have a:obj u b=some (wmO (w.1,w.2.1,w.2.2.1,w.2.2.2.1,tk,g,at_,())):=v;refine Zi (Zi (rI (Zb a rfl) (rI (Zb a rfl) (rI (Zb a rfl) (rI (Zb a rfl) (rI (Zb a rfl) (n _ _ λy j=>Za (Za (f y (Zj a j) ?_)))))))));exact((((c.trans i).upd _).trans p).trans (t.trans x)).trans (j.upd _)
theorem Zrm(w:Wm)(at_ past now n:Int):∃(ok:Bool) (e:Int) (w':Wm),∀{b:Nat} {h:Zf} {K:Bool->Int->Zf->Prop},obj h b=some (wmO w)->(∀h',obj h' b=some (wmO w')->Upd (· = b) h h'->K ok e h')->X0 (some ⟨b,0,none⟩) at_ past now n K h:=by
  have start:∀{b:Nat} {h:Zf} {K:Bool->Int->Zf->Prop},obj h b=some (wmO w)->(∀h3,obj h3 b=some (wmO w)->Ext h h3->Zk (Zgj w at_ [past,now]==1) (Zc (Zgj w at_ [past,now]) λt4=>K false t4 h3) (Zq (Zgj w at_ [past,now]==2) λt5=>Zk t5 (Zc (Zgj w at_ [past,now]) λt6=>K false t6 h3) (Zk (decide (n<1)) (Zc 2 λt7=>K false t7 h3) (
      Zq (decide (n>1099511627776)) λt8=>Zk t8 (Zc 2 λt9=>K false t9 h3) (Zq (Zgj w at_ [past,now] !=0) λt10=>Zk t10 (Zc (Zgj w at_ [past,now]) λt11=>K false t11 h3) (
       Xe (some ⟨b,0,none⟩) at_ past (λt12 t13 m=>Zc t12 λr=>Zc t13 λx=>Zq (decide (now<=(IntKind.wrap .i64 (r- n)))) λt15=>Zc 0 λt16=>K t15 t16 m) h3))))))->X0 (some ⟨b,0,none⟩) at_ past now n K h:=λ{b h K} a t=>by
    unfold X0 Zfe;exact Za (ZF λh1 c1 o A=>Zl2 (Zj a o) (l:=[past,now]) (show 2<=100 by decide) (ZBX (k:=2) (n:=1) c1 rfl (by decide)) (Za (t h1 (Zj a o) o)))
  have g:(Zgj w at_ [past,now]==1)=false:=by
    unfold Zgj;split
    ·rfl
    ·split
     ·rfl
     ·split
      ·rfl
      ·split<;>rfl
  by_cases q:Zgj w at_ [past,now]=2
  ·exact⟨false,Zgj w at_ [past,now],w,λ{b h K} a c=>start a λh3 d f=>Zh g (Zd (Zm (by simpa using q) (Za (c h3 d (f.upd _)))))⟩
  have i:(Zgj w at_ [past,now]==2)=false:=by simpa using q
  by_cases j:n<1
  ·exact⟨false,2,w,λ{b h K} a c=>start a λh3 d f=>Zh g (Zd (Zh i (Zm (decide_eq_true j) (Za (c h3 d (f.upd _))))))⟩
  by_cases p:n>1099511627776
  ·exact⟨false,2,w,λ{b h K} a c=>start a λh3 d f=>Zh g (Zd (Zh i (Zh (decide_eq_false j) (Zd (Zm (decide_eq_true p) (Za (c h3 d (f.upd _))))))))⟩
  by_cases s:Zgj w at_ [past,now]=0
  case neg=>exact⟨false,Zgj w at_ [past,now],w,λ{b h K} a c=>start a λh3 d f=>Zh g (Zd (Zh i (Zh (decide_eq_false j) (Zd (Zh (decide_eq_false p) (Zd (Zm (by simpa using s) (Za (c h3 d (f.upd _))))))))))⟩
  obtain⟨r,e,w',u⟩:=Zm8 w at_ past;exact⟨decide (now<=IntKind.wrap .i64 (r- n)),0,w',λ{b h K} a c=>start a λh3 d f=>Zh g (Zd (Zh i (Zh (decide_eq_false j) (Zd (Zh (decide_eq_false p) (Zd (Zh (by rw[s];rfl) (u d λv y z=>Za (Za (Zd (Za (c v y ((f.upd _).trans z)))))))))))))⟩
theorem ZBP{a c d:Zf}{x:Nat}(e:Ext a c)(u:Upd (· = x) c d)(b:sz a<=x):Ext a d:=e.then u λk f=>by subst f;exact b
theorem ZuZ(w:Wm)(at_ past now n:Int):∃(ok:Bool) (e:Int),∀{b:Nat} {h:Zf} {K:Bool->Int->Zf->Prop},obj h b=some (wmO w)->(∀h',Ext h h'->K ok e h')->ZcD (some ⟨b,0,none⟩) at_ past now n K h:=by obtain⟨ok,e,w',hT⟩:=Zrm w at_ past now n;refine⟨ok,e,λ{b h K} a c=>?_⟩;unfold ZcD Zfg;exact Za (ZoA a λh1 c1 d i=>hT c1 λf j g=>Zd (Za (c f (ZBP d g (Aqo _)))))
theorem ZuY(w:Wm)(at_ past:Int):∃(r e:Int),∀{b:Nat} {h:Zf} {K:Int->Int->Zf->Prop},obj h b=some (wmO w)->(∀h',Ext h h'->K r e h')->ZcC (some ⟨b,0,none⟩) at_ past K h:=by obtain⟨r,e,w',a⟩:=Zm8 w at_ past;refine⟨r,e,λ{b h K} c d=>?_⟩;unfold ZcC Zff;exact Za (Za (ZoA c λh1 c1 f j=>a c1 λg k i=>Za (Za (d g (ZBP f i (Aqo _))))))
def ZuR(n:Int)(h:1000000<=n/\n<=120000000):Wid:=⟨n,1,n,by rw[Int.tdiv_one];exact Yw (by omega) (by omega),by decide,by decide,by omega,h.2⟩
structure BkS where
  r:B7
  st:Int
  un:Int
  tr:Int
  la:Int
  w:Win
abbrev bkO(B:BkS)(wb:Nat):Obj:=.cells (b7L B.r++[.pointer (some ⟨wb,0,none⟩),.int .u8 B.st,iv B.un,iv B.tr,iv B.la]).toArray 204 (0,0)
def WOK(r:B7):Prop:=1000000<=r.2.2.2.2.2.1/\r.2.2.2.2.2.1<=120000000
structure BkR(h:Zf)(bb:Nat)(O:Nat->Prop)(B:BkS)(hw:WOK B.r):Prop where
  ex:∃wb mb,obj h bb=some (bkO B wb)/\Zll (ZuR _ hw) h wb mb B.w/\O bb/\O wb/\O mb
  last:B.w.last<=B.la
theorem BkR.congr{h h':Zf}{bb:Nat}{O:Nat->Prop}{B:BkS}{hw:WOK B.r}(k:BkR h bb O B hw)(he:∀j,O j->j<sz h->obj h' j=obj h j):BkR h' bb O B hw:=by obtain⟨⟨wb,mb,h1,a,b,c,d⟩,hl⟩:=k;exact⟨⟨wb,mb,(he _ b (Zp h1)).trans h1,a.congr (he _ c (Zp a.cells)) (he _ d a.mlt),b,c,d⟩,hl⟩
theorem BkR.mono{h:Zf}{bb:Nat}{O O':Nat->Prop}{B:BkS}{hw:WOK B.r}(k:BkR h bb O B hw)(he:∀j,O j->O' j):BkR h bb O' B hw:=by obtain⟨⟨wb,mb,h1,a,b,c,d⟩,hl⟩:=k;exact⟨⟨wb,mb,h1,a,he _ b,he _ c,he _ d⟩,hl⟩
section
variable{h:Zf}{bb wb:Nat}{B:BkS}
theorem ZpN(d:obj h bb=some (bkO B wb)){at_:Int}{K:Int->Zf->Prop}(a:K (YC B.la at_) h):Xf (some ⟨bb,0,none⟩) at_ K h:=by
  unfold Xf Zcz;unfold YC at a;refine Za (Zd (Zh rfl (Zn (λq=>Za ?_) λq=>Zd (Zn (λb=>Za ?_) λb=>Zi (rI (Zb d rfl) (Zd (Zn (λc=>Za ?_) λc=>Za ?_)))))))
  ·rw[if_pos q]at a;exact a
  ·rw[if_neg q,if_pos b]at a;exact a
  ·rw[if_neg q,if_neg b,if_pos c]at a;exact a
  ·rw[if_neg q,if_neg b,if_neg c]at a;exact a
def Zmr(B:BkS)(at_:Int):Bool:=decide (B.st=1)||(decide (B.st=2)&&decide (B.un<=at_))
theorem ZpM(b:obj h bb=some (bkO B wb)){at_:Int}{K:Bool->Zf->Prop}(a:K (Zmr B at_) h):Xs (some ⟨bb,0,none⟩) at_ K h:=by
  unfold Xs ZbM;unfold Zmr at a;refine Zi (rI (Zb b rfl) (Ym (λq=>?_) λq=>Zi (rI (Zb b rfl) (Ym (λc=>Zi (rI (Zb b rfl) (Zd ?_))) λc=>?_))))
  ·rw[decide_eq_true q]at a;exact a
  ·rw[decide_eq_false q,decide_eq_true c]at a;exact a
  ·rw[decide_eq_false q,decide_eq_false c]at a;exact a
def ZuG(B:BkS)(at_:Int):Bool:=if YC B.la at_=0 then Zmr B at_ else false
theorem Zwy(b:obj h bb=some (bkO B wb)){at_:Int}{K:Bool->Int->Zf->Prop}(a:∀e,K (ZuG B at_) e h):ZaJ (some ⟨bb,0,none⟩) at_ K h:=by
  unfold ZaJ ZcA;unfold ZuG at a;refine Za (ZpN b (Za ?_))
  by_cases he:YC B.la at_=0
  ·rw[he];rw[if_pos he]at a;exact Zh rfl (ZpM b (Zd (Za (a _))))
  ·rw[if_neg he]at a;exact Zm (by simpa using he) (Za (a _))
def BkS.enter(B:BkS)(at_:Int):BkS:=if YC B.la at_=0 then {B with la:=at_,st:=if Zmr B at_=true/\B.st=2 then 3 else B.st}else B
def ZpL(B:BkS)(at_:Int):Bool:=decide (YC B.la at_=0)&&(Zmr B at_&&decide (B.st=2))
theorem Zt3(f:obj h bb=some (bkO B wb)){at_:Int}{K:Bool->Bool->Int->Zf->Prop}
    (b:∀h' p e,obj h' bb=some (bkO (B.enter at_) wb)->Upd (· = bb) h h'->sz h'=sz h->K p (ZpL B at_) e h'):Zaq (some ⟨bb,0,none⟩) at_ K h:=by
  unfold Zaq Zb7;refine Za (ZpN f (Za ?_));unfold ZpL BkS.enter at b
  by_cases he:YC B.la at_=0
  case neg=>
    rw[if_neg he,decide_eq_false he]at b;exact Zm (by simpa using he) (Za (b h _ _ f (Upd.refl _ _) rfl))
  rw[if_pos he,decide_eq_true he,Aqa]at b;rw[he];refine Zh rfl (Zi (ZcS f (show 0+11<12 by decide) rfl λh1 c1 g i=>?_));have a:obj h1 bb=some (bkO {B with la:=at_} wb):=c1;refine ZpM a (Zd ?_);have j:Zmr {B with la:=at_} at_=Zmr B at_:=rfl;rw[j];refine⟨λq=>Zi (rI (Zb a rfl) (Ym (λc=>Zi (ZcS a (show 0+8<12 by decide) rfl λk l m n=>Zd (Za ?_))) λc=>Zd (Za ?_))),λq=>Zd (Za ?_)⟩
  ·have:=b k (Zmr B at_) 0 (by rw[if_pos ⟨q,c⟩];exact l) (g.trans m) (n.trans i);rw[show(Zmr B at_&&decide (B.st=2))=true by rw[q,decide_eq_true (show B.st=2 from c)];rfl]at this;exact this
  ·have:=b h1 (Zmr B at_) 0 (by rw[if_neg λd=>c d.2];exact a) g i;rw[show(Zmr B at_&&decide (B.st=2))=false by rw[decide_eq_false (show ¬B.st=2 from c)];simp]at this;exact this
  ·have:=b h1 (Zmr B at_) 0 (by rw[if_neg λd=>by rw[q]at d;cases d.1];exact a) g i;rw[show(Zmr B at_&&decide (B.st=2))=false by rw[q];rfl]at this;exact this
end
theorem Zze{h:Zf}{r:B7}(hw:WOK r)(p:∀(h:Zf) (K:Int->Zf->Prop),(∀h',Ext h h'->K 0 h')->Zdo r K h){K:Option Addr->Int->Zf->Prop}
    (c:∀h' g O',BkR h' g O' ⟨r,1,0,0,0,⟨0,λ_=>z6⟩⟩ hw->Ext h h'->(∀j,O' j->sz h<=j/\j<sz h')->K (some ⟨g,0,none⟩) 0 h'):Ze6 r K h:=by
  unfold Ze6 Zjm;refine ZF λh1 c1 i v=>Za (rS (Zb c1 rfl) (rI (Zb c1 rfl) (rI (Zb c1 rfl) (rI (Zb c1 rfl) (rI (Zb c1 rfl) (rI (Zb c1 rfl) (rI (Zb c1 rfl) ?_)))))));refine p _ _ λb d=>Za (Zh rfl ?_);have a:=Zj c1 d;refine rS (Zb a rfl) (rI (Zb a rfl) (rI (Zb a rfl) (rI (Zb a rfl) (rI (Zb a rfl) (rI (Zb a rfl) (rI (Zb a rfl) (ZF λh3 l q z3=>?_)))))));have s:sz h<=sz b:=(i.trans d).size;unfold Zap Zb6;have w:sz h3=sz b+1:=z3;refine Zi (rI (Zb l rfl) (ZiT (k:=ZuR _ hw) (Int.tmod_one _) ⟨by have:=hw.1;show 1<=r.2.2.2.2.2.1;omega,by have:=hw.2;show r.2.2.2.2.2.1<=_;omega⟩ λm e n z4=>Zi (ZcS (Zj l n) (show 0+7<12 by decide) rfl λo t f z5=>Za ?_)));have u:sz m=sz h3+2:=z4;have x:sz o=sz m:=z5;refine c o (sz b) (λj=>j=sz b\/j=sz h3\/j=sz h3+1) ⟨⟨sz h3+1,sz h3,t,e.congr ?_ ?_,.inl rfl,.inr (.inr rfl),.inr (.inl rfl)⟩,Int.le_refl _⟩ ?_ λj y=>by omega
  ·exact f.old _ (Zp e.cells) (by show ¬sz h3+1=sz b;omega)
  ·exact f.old _ e.mlt (by show ¬sz h3=sz b;omega)
  ·exact(((i.trans d).trans q).trans n).then f λk c=>by subst c;exact s
end Go.Proofs.YtonbfpnngkemiaaGreat
