/- The tree of nodes: what Touch, Pass and Block leave. -/
import Derived.Test.YtonbfpnngkemiaaGreatPa9
set_option linter.unusedVariables false
set_option linter.unusedSimpArgs false
namespace Go.Proofs.YtonbfpnngkemiaaGreat
open Go Go.Fw
open Nat renaming reduceAdd->Nqa,reduceLT->Nqb,reduceLeDiff->Nqc,reduceEqDiff->Nqd,reduceMul->Nqe
def Tree.put(t:Tree)(k:K4)(n:Node):Tree:=⟨λj=>if j=k then some n else t.f j,t.keys,t.last⟩
theorem Zak.lt{h:Zf}{tb:Nat}{O:Nat->Prop}{t:Tree}(a:Zak h tb O t):tb<sz h:=by obtain⟨mb,base,ks,A,hi,ho⟩:=a;exact Zp hi.cells
theorem Zak.last{h:Zf}{tb:Nat}{O:Nat->Prop}{t:Tree}(a:Zak h tb O t):ZA 2 (obj h tb)=some (iv t.last):=by obtain⟨mb,base,ks,A,hi,ho⟩:=a;exact Zb hi.cells rfl
theorem Zak.keys{h:Zf}{tb:Nat}{O:Nat->Prop}{t:Tree}(a:Zak h tb O t):∃ks:Sl,ZA 1 (obj h tb)=some (slV ks)/\ks.len=t.keys.length/\t.keys.length<=512:=by obtain⟨mb,base,ks,A,hi,ho⟩:=a;have hl:=hi.row.len;rw[YM ZbF]at hl;exact⟨ks,Zb hi.cells rfl,(Ayd (by decide) hl).symm,hi.len⟩
theorem Zak.look{h:Zf}{tb:Nat}{O:Nat->Prop}{t:Tree}(s:Zak h tb O t)(k:K4):
    ∃ mb,ZA 0 (obj h tb)=some (.map (some mb))/\((t.f k=none/\∀K:Option Value->Prop,K none->Za1 [(.int .u8),.string,.string,.string] h (some mb) (k4L k) K)\/
      ∃ q n,t.f k=some n/\Zfx h q n/\(∀j,inN q j->O j/\j≠tb)/\(∀K:Option Value->Prop,K (some (.pointer (some ⟨q+4,0,none⟩)))->Za1 [(.int .u8),.string,.string,.string] h (some mb) (k4L k) K)/\
        ∀h' g,Zfx h' q g->Upd (inN q) h h'->Zak h' tb O (t.put k g)):=by
  obtain⟨mb,base,ks,A,hi,ho⟩:=s;obtain⟨n,hm⟩:=hi.map;refine⟨mb,Zb hi.cells rfl,?_⟩
  rcases hi.node k with⟨a,b⟩ |⟨q,n,a,b,c⟩
  ·exact .inl ⟨b,λK l=>hm.get k (by rw[a];exact l)⟩
  ·refine .inr ⟨q,n,b,c,λj d=>⟨ho j (.inr (.inr (.inr ⟨k,q,a,d⟩))),(hi.out k q a j d).1⟩,λK l=>hm.get k (by rw[a];exact l),λh' g m u=>?_⟩;have keep:∀j,j<sz h->¬inN q j->obj h' j=obj h j:=λj d v=>u.old j d v
   refine ⟨mb,base,ks,A,⟨(keep tb (Zp hi.cells) λd=>(hi.out k q a _ d).1 rfl).trans hi.cells,⟨_,hm.congr (keep mb hm.lt λd=>(hi.out k q a _ d).2.1 rfl)⟩,
     hi.row.congr λb w hl _=>keep b hl λd=>(hi.out k q a _ d).2.2 w,hi.len,λj=>?_,hi.disj,hi.mt,hi.kb,hi.out⟩,ho⟩
   by_cases e:j=k
   ·exact .inr ⟨q,g,by rw[e];exact a,if_pos e,m⟩
   ·rcases hi.node j with⟨i,o⟩ |⟨p,x,i,o,r⟩
    ·exact .inl ⟨i,(if_neg e).trans o⟩
    ·refine .inr ⟨p,x,i,(if_neg e).trans o,r.congr λy w1 z=>keep y (by have:=r.lt;omega) λd=>?_⟩;have:=hi.disj j k p q i a e;obtain⟨v1,v2⟩:=d;omega
theorem Zak.setLast{h:Zf}{tb:Nat}{O:Nat->Prop}{t:Tree}(k:Zak h tb O t){at_:Int}{K:Zf->Prop}(l:∀h',Zak h' tb O ⟨t.f,t.keys,at_⟩->Upd O h h'->K h'):st h tb 2 (iv at_) K:=by
  obtain⟨mb,base,ks,A,hi,ho⟩:=k;refine Zbs hi.cells (show 2<3 by decide) rfl λh' m a z'=>l h' ⟨mb,base,ks,A,⟨m,?_,?_,hi.len,λj=>?_,hi.disj,hi.mt,hi.kb,hi.out⟩,ho⟩ (a.mono λj _ o=>by rw[o];exact ho tb (.inl rfl))
  ·obtain⟨n,hm⟩:=hi.map;exact⟨n,hm.congr (a.old _ hm.lt hi.mt)⟩
  ·exact hi.row.congr λb p hl _=>a.old b hl (hi.kb b p).1
  ·rcases hi.node j with g|⟨d,q,e,r,i⟩
   ·exact .inl g
   ·exact .inr ⟨d,q,e,r,i.congr λc w1 s=>a.old c (show c<sz h by have:=i.lt;omega) (hi.out j d e c ⟨w1,s⟩).1⟩
def Zn9(h:Zf)(p:Option Addr)(o:Option Node):Prop:=(o=none/\p=none)\/∃c a d b mb n,o=some n/\p=some ⟨c,0,none⟩/\ZhC h c a d b mb n
theorem Zn9.ext{h h':Zf}{p:Option Addr}{o:Option Node}(c:Zn9 h p o)(e:Ext h h'):Zn9 h' p o:=by
  rcases c with g|⟨d,a,f,b,mb,n,h1,i,h3⟩
  ·exact .inl g
  ·exact .inr ⟨d,a,f,b,mb,n,h1,i,h3.ext e⟩
theorem Zma{h:Zf}{tb:Nat}{O:Nat->Prop}{t:Tree}(e:Zak h tb O t){k:K4}{K:Option Addr->Zf->Prop}(d:∀h' p,Ext h h'->Zn9 h' p (t.f k)->K p h'):ZaI (some ⟨tb,0,none⟩) k K h:=by
  unfold ZaI Zf9;refine ZH λh1 c1 b o=>Zt (Zg ?_);obtain⟨mb,g,a⟩:=(e.ext b).look k;refine rM g (rI (Zb c1 rfl) (rS (Zb c1 rfl) (rS (Zb c1 rfl) (rS (Zb c1 rfl) ?_))))
  rcases a with⟨c,a⟩ |⟨q,n,c,i,_,a,_⟩
  ·refine a _ ⟨none,rfl,Ztt (d h1 none b (.inl ⟨c,rfl⟩))⟩
  ·refine a _ ⟨_,rfl,Zv3 i λj l m r=>d j _ (b.trans m) (.inr ⟨_,_,_,_,_,n,c,rfl,l⟩)⟩
theorem ZAJ{t:Tree}{k j:K4}(h:j≠k):(t.make k).isNew j=t.isNew j:=by
  unfold Tree.make Tree.isNew;split
  ·rfl
  ·show(if j=k then some Node.zero else t.f j).isNone=_;rw[if_neg h]
theorem Zo4{t:Tree}{k:K4}:∀{l:List K4},k∉l->(t.make k).freshN l=t.freshN l
  |[],_=>rfl
  | x::l,h=>by
    have h1:x≠k:=λe=>h (by rw[e];exact List.mem_cons_self ..);have a:=Zo4 (t:=t) (k:=k) (l:=l) λhm=>h (Aws _ hm);unfold Tree.freshN at a⊢;rw[List.filter_cons,List.filter_cons,ZAJ h1];split<;>simp[a]
theorem ZAK(t:Tree)(k:K4):(t.make k).keys.length=t.keys.length+(if t.isNew k=true then 1 else 0):=by
  unfold Tree.make Tree.isNew
  cases h:t.f k with
  |none=>simp
  |some n=>simp
theorem Zpk(t:Tree)(k:K4)(l:List K4):t.freshN (k::l)=(if t.isNew k=true then 1 else 0)+t.freshN l:=by
  unfold Tree.freshN;rw[List.filter_cons];split
  ·rw[Aqj];omega
  ·omega
def Tree.room(t:Tree)(l:List K4):Prop:=t.keys.length+t.freshN l<=512
instance(t:Tree)(l:List K4):Decidable (t.room l):=inferInstanceAs (Decidable (_<=_))
theorem Zm7{t:Tree}{k:K4}{l:List K4}(a:t.room (k::l))(b:k∉l):(t.isNew k=true->t.keys.length<512)/\(t.make k).room l:=by
  unfold Tree.room at *;rw[Zpk]at a;rw[ZAK,Zo4 b];refine⟨λe=>?_,?_⟩
  ·rw[if_pos e]at a;omega
  ·omega
theorem Zfh(c:C8):(ZI c).Nodup:=by unfold ZI Zvx ZE6;split<;>split<;>simp
theorem ZmD(c:C8):(ZI c).length<=5:=by unfold ZI Zvx ZE6;split<;>split<;>simp
theorem ZmT{S T:Nat->Prop}{a b c:Zf}(h:Upd S a b)(h':Upd T b c)(hs:∀k,k<sz a->T k->S k):Upd S a c:=
  ⟨Aqp h.size h'.size,λk d e=>(h'.old k (Aqq d h.size) λhT=>e (hs k d hT)).trans (h.old k d e)⟩
theorem ZjV{at_:Int}{K:Bool->Zf->Prop}{h:Zf}(a:K (inB at_ 0 1152921504606846976) h):ZaS at_ K h:=by unfold ZaS ZiB;unfold inB at a;exact⟨λe=>by rw[e]at a;exact Zd a,λe=>by rw[e]at a;exact a⟩
def Tree.full(t:Tree)(k:K4):Bool:=match t.f k with
  |some n=>decide (n.fl>=4096)
  |none=>false
theorem ZvD{h:Zf}{tb d:Nat}{O:Nat->Prop}{t:Tree}{T:TypeId}(g:Zak h tb O t)(f:obj h d=some (.cells [.pointer (some ⟨tb,0,none⟩)].toArray T (0,0))){k:K4}{K:Bool->Zf->Prop}(i:∀h',Ext h h'->K (t.full k) h'):Zcp k (some ⟨d,0,none⟩) K h:=by
  unfold Zcp ZeT;refine ZH λh1 c1 c m=>Zg (rP (Zb (Zj f c) rfl) (Zg ?_));obtain⟨mb,j,b⟩:=(g.ext c).look k;have hd:Zm h1 [(d,0,.pointer (some ⟨tb,0,none⟩))]:=ZR (Zb (Zj f c) rfl);have a:=i h1 c;unfold Tree.full at a;refine rM j (rI (Zb c1 rfl) (rS (Zb c1 rfl) (rS (Zb c1 rfl) (rS (Zb c1 rfl) ?_))))
  rcases b with⟨e,b⟩ |⟨q,n,e,l,_,b,_⟩
  ·rw[e]at a;exact b _ ⟨none,rfl,hd,ZjS ⟨hd,Zd a⟩⟩
  ·rw[e]at a;exact b _ ⟨_,rfl,hd,ZkS l ⟨hd,Zd a⟩⟩
theorem ZxZ{h:Zf}{tb v:Nat}{O:Nat->Prop}{t:Tree}{T:TypeId}(y:Zak h tb O t)(z:obj h v=some (.cells [.pointer (some ⟨tb,0,none⟩)].toArray T (0,0))){s:Sl}{l:List K4}(hs:Row h s 4 (l.flatMap k4L))(hl:l.length<=100000)
    {K:Bool->Zf->Prop} (e:∀h',Ext h h'->K (l.any t.full) h'):Zs s (some ⟨v,0,none⟩,()) K h:=by
  unfold Zs ZV Z7 Yd;have hlen:=hs.len;rw[YM ZbF]at hlen;have A:s.len=l.length:=(Ayd (by decide) hlen).symm;refine Za (ZaE (λp w=>∃i:Nat,p=((i:Int),())/\i<=l.length/\Ext h w/\(l.take i).any t.full=false) (λp _=>l.length- p.1.toNat) ⟨0,rfl,Aye _,Ext.refl _,rfl⟩ ?_);rintro _ w ⟨i,rfl,B,he,j⟩ Q C;dsimp only;refine Zo (λq=>?_) λq=>?_
  ·have a:i<l.length:=by omega
   have f:l[i]?=some l[i]:=Axy a;generalize l[i]=k at f;obtain⟨b,o,D,E,d,g⟩:=Za5 ZbF (hs.ext he) f (by decide);have v0:=g 0 _ rfl;have v1:=g 1 _ rfl;have v2:=g 2 _ rfl;have v3:=g 3 _ rfl;have m:IntKind.wrap .i64 ((i:Int)+1)=((i+1:Nat):Int):=wrS a (by omega);have n:l.take (i+1)=l.take i++[k]:=by rw[Ayk,f];rfl
   refine Za (d rfl (rI v0 (rS v1 (rS v2 (rS v3 (ZvD (y.ext he) (Zj z he) λh1 x=>⟨λr=>?_,λr=>?_⟩))))))
   ·have:l.any t.full=true:=List.any_eq_true.2 ⟨k,Axo f,r⟩
    rw[this]at e;refine Za (Zd ?_);have:decide ((i:Int)>=0)=true:=by simp
    rw[this];exact e _ (he.trans x)
   ·rw[m];refine C _ _ ⟨i+1,rfl,a,he.trans x,?_⟩ (by show l.length- ((i+1:Nat):Int).toNat<l.length- ((i:Nat):Int).toNat;omega);have u:t.full k=false:=r;rw[n,List.any_append,j];simp[u]
  ·have c:l.take i=l:=Awd (by omega);rw[c]at j;rw[j]at e;exact Za (Zd (e _ he))
def Tree.on(t:Tree)(k:K4)(g:Node->Node):Tree:=match t.f k with
  |some n=>t.put k (g n)
  |none=>t
def Tree.steps(g:Node->Node):List K4->Tree->Tree
  |[],t=>t
  |k::l,t=>Tree.steps g l ((t.make k).on k g)
def Tree.noteE(t:Tree)(c:C8)(full:Bool):Int:=
  if ZgZ c≠0 then ZgZ c else if ¬(0<=c.1/\c.1<=1152921504606846976)then 2 else if ¬(1<=c.2.2.2.2.2.1/\c.2.2.2.2.2.1<=1099511627776)then 2 else if c.1<t.last then 7
  else if ¬t.room (ZI c)then 3 else if full=true/\(ZI c).any t.full=true then 3 else 0
def Tree.noted(t:Tree)(c:C8)(full:Bool)(g:Node->Node):Tree:=if t.noteE c full=0 then(let t':=t.steps g (ZI c);⟨t'.f,t'.keys,c.1⟩)else t
theorem ZAL(t:Tree)(k:K4):∃n,(t.make k).f k=some n:=by
  unfold Tree.make;split
  ·rename_i n h;exact⟨n,h⟩
  ·exact⟨Node.zero,if_pos rfl⟩
theorem Zxo(t:Tree)(k:K4)(g:Node->Node):(t.on k g).keys=t.keys:=by unfold Tree.on;split<;>rfl
theorem ZBz(t:Tree)(k j:K4)(g:Node->Node):(t.on k g).isNew j=t.isNew j:=by
  unfold Tree.on;split
  ·rename_i n h;unfold Tree.isNew Tree.put;dsimp only
   by_cases e:j=k
   ·rw[if_pos e,e,h];rfl
   ·rw[if_neg e]
  ·rfl
theorem ZDN{t:Tree}{k:K4}{g:Node->Node}{l:List K4}(h:t.room l):(t.on k g).room l:=by unfold Tree.room Tree.freshN at *;rw[Zxo];have:(t.on k g).isNew=t.isNew:=funext λj=>ZBz t k j g;rw[this];exact h
abbrev Zsi(O O':Nat->Prop)(h h':Zf):Prop:=(∀j,O' j->O j\/(sz h<=j/\j<sz h'))/\∀j,O j->O' j
theorem ZoX{f:Option Addr->Option Addr->(Int->Zf->Prop)->Zf->Prop}{g:Node->Node}{cb:Nat}{x:Obj}(hf:∀(h:Zf) (q:Nat) (n:Node) (K:Int->Zf->Prop),Zfx h q n->obj h cb=some x->(∀e h',Zfx h' q (g n)->Upd (inN q) h h'->K e h')->f (some ⟨q+4,0,none⟩) (some ⟨cb,0,none⟩) K h)
    {h:Zf} {tb:Nat} {O:Nat->Prop} {t:Tree} (ht:Zak h tb O t) (hO:∀j,O j->j<sz h) (ae:obj h cb=some x) (af:¬O cb) {c:C8} (hz:Zic c) {full:Bool} {K:Int->Zf->Prop}
    (hk:∀h' O',Zak h' tb O' (t.noted c full g)->Upd O h h'->Zsi O O' h h'->K (t.noteE c full) h'):
    YP Zby ZaS Xp Zs Xo f (some ⟨tb,0,none⟩) c full (some ⟨cb,0,none⟩,()) K h:=by
  have no:∀e (a:Zf),Ext h a->e≠0->t.noteE c full=e->K e a:=λe a e9 h1 h2=>by
    have:=hk a O (by unfold Tree.noted;rw[if_neg (by rw[h2];exact h1)];exact ht.ext e9) (e9.upd _) ⟨λj d=>.inl d,λj d=>d⟩;rwa[h2]at this
  unfold YP;refine ZH λh1 c1 e1 z1=>ZH λh3 I e3 z3=>Za ?_;have p3:=Zj c1 e3;refine rP (Zb p3 rfl) (Zt (rI (Zb I rfl) (rS (Zb I rfl) (rS (Zb I rfl) (rS (Zb I rfl) (rB (Zb I rfl) (rI (Zb I rfl) (rL (Zb I rfl) ?_))))))));refine Zlr (c:=c) hz λs B e4 V=>Za (Zd (ZbG (λC=>Za ?_) λC=>?_))
  ·exact no _ B ((e1.trans e3).trans e4) C (by unfold Tree.noteE;rw[if_pos C])
  rw[if_pos C]at V;have u:Ext h B:=(e1.trans e3).trans e4;have W:=Zj I e4;have p4:=Zj p3 e4;have t4:=ht.ext u;refine rI (Zb W rfl) (ZjV ?_)
  by_cases X:0<=c.1/\c.1<=1152921504606846976
  case neg=>
    have:inB c.1 0 1152921504606846976=false:=by unfold inB;simp;omega
    rw[this];exact Yz (Za (no 2 B u (by decide) (by unfold Tree.noteE;rw[if_neg (λa=>a C),if_pos X])))
  have:inB c.1 0 1152921504606846976=true:=by unfold inB;simp;omega
  rw[this];refine Zt (rI (Zb W rfl) ?_)
  by_cases Y:1<=c.2.2.2.2.2.1/\c.2.2.2.2.2.1<=1099511627776
  case neg=>
    have hE:t.noteE c full=2:=by unfold Tree.noteE;rw[if_neg (λa=>a C),if_neg (λa=>a X),if_pos Y]
    refine Zo (λq2=>Za (no 2 B u (by decide) hE)) λq2=>rI (Zb W rfl) (Zd (Zo (λq3=>Za (no 2 B u (by decide) hE)) λq3=>?_));exact absurd ⟨by omega,by omega⟩ Y
  refine Zo (λq2=>by omega) λq2=>rI (Zb W rfl) (Zd (Zo (λq3=>by omega) λq3=>?_));refine rI (Zb W rfl) (rP (Zb p4 rfl) (Zg (rI t4.last (Zd (Zo (λq4=>Za (no 7 B u (by decide) ?_)) λq4=>?_)))))
  ·unfold Tree.noteE;rw[if_neg (λa=>a C),if_neg (λa=>a X),if_neg (λa=>a Y),if_pos q4]
  obtain⟨ks,ak,aP,bA⟩:=t4.keys;refine rP (Zb p4 rfl) (Zg (rP (Zb p4 rfl) (Zg (rL ak ?_))));have bB:=ZmD c;refine Zpj t4 V.row (Zfh c) (by omega) λh5 N=>?_;have t5:=t4.ext N;have p5:=Zj p4 N;have c5:=Zj W N;have P:=u.trans N;have al:ZA 1 (obj h5 tb)=some (slV ks):=by rw[ZB N t4.lt];exact ak
  refine⟨ZR al,ZR (Zb p5 rfl),ZR (Zb p5 rfl),Zd ?_⟩;rw[aP,Yj (by omega) (by omega)];have w:((t.freshN (ZI c):Int)>512-(t.keys.length:Int))↔¬t.room (ZI c):=by unfold Tree.room;omega
  refine Zo (λq5=>Za (no 3 h5 P (by decide) ?_)) λq5=>?_
  ·unfold Tree.noteE;rw[if_neg (λa=>a C),if_neg (λa=>a X),if_neg (λa=>a Y),if_neg q4,if_pos (w.1 q5)]
  have hr:t.room (ZI c):=Classical.byContradiction λa=>q5 (w.2 a);refine ZkM (λ_ l=>Ext h5 l/\¬(full=true/\(ZI c).any t.full=true)) ?_ λQ hQ=>?_
  case refine_2=>
    refine⟨λJ=>ZxZ t5 p5 (V.row.ext N) (by omega) λl L=>⟨λD=>Za (no 3 l (P.trans L) (by decide) ?_),λD=>hQ _ _ ⟨L,λa=>?_⟩⟩,λJ=>hQ _ _ ⟨Ext.refl _,λa=>?_⟩⟩
    ·unfold Tree.noteE;rw[if_neg (λa=>a C),if_neg (λa=>a X),if_neg (λa=>a Y),if_neg q4,if_neg (λa=>a hr),if_pos ⟨J,D⟩]
    ·rw[a.2]at D;cases D
    ·rw[a.1]at J;cases J
  rintro _ l ⟨L,aT⟩;have hE:t.noteE c full=0:=by unfold Tree.noteE;rw[if_neg (λa=>a C),if_neg (λa=>a X),if_neg (λa=>a Y),if_neg q4,if_neg (λa=>a hr),if_neg aT]
  have hN:t.noted c full g=⟨(t.steps g (ZI c)).f,(t.steps g (ZI c)).keys,c.1⟩:=by unfold Tree.noted;rw[if_pos hE]
  rw[hE,hN]at hk;have hlen:=V.row.len;rw[YM ZbF]at hlen;have bE:s.len=(ZI c).length:=(Ayd (by decide) hlen).symm;have an:=N.trans L;have z:=P.trans L;have zz:sz h<=sz h1:=e1.size;have w1:sz h1=sz h+1:=z1;have w3:sz h3=sz h1+1:=z3;have w4:sz h3<=sz B:=e4.size;have bF:sz B<=sz l:=an.size;have rows:∀b,s.blk=some b->sz h<=b/\b<sz B:=λb J=>by have:sz h3<=b/\b<sz B:=V.lt J;omega
  refine ZaE (λp m=>∃(i:Nat) (Z:List K4) (t2:Tree) (O2:Nat->Prop),p=((i:Int),())/\i<=(ZI c).length/\(ZI c).drop i=Z/\Tree.steps g Z t2=Tree.steps g (ZI c) t/\Zak m tb O2 t2/\t2.room Z/\Upd O l m/\Zsi O O2 l m)
    (λp _=>(ZI c).length- p.1.toNat) ⟨0,_,t,O,rfl,Aye _,rfl,rfl,t5.ext L,hr,Upd.refl _ _,λj d=>.inl d,λj d=>d⟩ ?_
  rintro _ m ⟨i,Z,t2,O2,rfl,bG,R,aq,ar,aU,hu,v,au⟩ Q hQ;have nO:∀j,sz h<=j->¬O j:=λj d a=>by have:=hO j a;omega
  have old:∀{j:Nat} {y:Obj},obj l j=some y->¬O j->obj m j=some y:=λ{j y} d E=>(hu.old j (Zp d) E).trans d;have p6:obj m (sz h)=_:=old (Zj p5 L) (nO _ (Aqo _));have c6:obj m (sz h1)=_:=old (Zj c5 L) (nO _ (by omega));have x6:obj m cb=some x:=old (Zj ae z) af;have w6:sz l<=sz m:=hu.size;dsimp only;refine Zo (λq=>?_) λq=>?_
  ·have F:i<(ZI c).length:=by omega
   have hg:(ZI c)[i]?=some (ZI c)[i]:=Axy F;have aw:Z=(ZI c)[i]::(ZI c).drop (i+1):=by rw[<-R];exact Aym F
   generalize (ZI c)[i]=k at hg aw;subst aw
   have aW:k∉(ZI c).drop (i+1):=by
     have:=Zfh c;rw[<-Ayl i (ZI c),List.nodup_append]at this;rw[R]at this;exact(Ayn.1 this.2.1).1
   obtain⟨aX,aY⟩:=Zm7 aU aW;have ax:Row m s 4 ((ZI c).flatMap k4L):=(V.row.ext an).congr λb o J _ hl=>hu.old b hl (nO _ (rows b (by simp[Sl.blk,J])).1);obtain⟨b,o,bJ,bK,ay,G⟩:=Za5 ZbF ax hg (by decide);have v0:=G 0 _ rfl;have v1:=G 1 _ rfl;have v2:=G 2 _ rfl;have v3:=G 3 _ rfl;have aZ:IntKind.wrap .i64 ((i:Int)+1)=((i+1:Nat):Int):=wrS F (by omega);refine ay rfl (rI v0 (rS v1 (rS v2 (rS v3 (ZH λh7 c7 e7 z7=>Zaw c7 λh8 c8 u8 z8=>?_)))));have e8:Ext m h8:=e7.then u8 λk hk=>by subst hk;exact Aqo _
   refine rP (Zb (Zj p6 e8) rfl) (Zg (rI (Zb c8 rfl) (rS (Zb c8 rfl) (rS (Zb c8 rfl) (rS (Zb c8 rfl) ?_)))));refine Zo5 (k:=k) (ar.ext e8) aX λa O9 t9 u9 g9 bb=>?_;have w8:sz m<=sz h8:=e8.size;have w9:sz h8<=sz a:=u9.size
   have aA:∀j,j<sz l->¬O j->¬O2 j:=λj d E r=>by
     rcases v j r with g|g
     ·exact E g
     ·omega
   have M:∀{j:Nat} {y:Obj},obj m j=some y->j<sz l->¬O j->obj a j=some y:=λ{j y} d hl E=>(u9.old j (show j<sz h8 by omega) (aA j hl E)).trans (Zj d e8);have l0:sz h<sz l:=by omega
   have l1:sz h1<sz l:=by omega
   have p9:=M p6 l0 (nO _ (Aqo _));have x9:=M x6 (Zp (Zj ae z)) af
   have c9:obj a (sz m)=_:=(u9.old (sz m) (Zp c8) (λr=>by
     rcases v _ r with g|g
     ·have:=hO _ g;omega
     ·omega)).trans c8
   refine⟨ZR (Zb p9 rfl),rP (Zb p9 rfl) (Zg ?_)⟩;obtain⟨mb,bc,S⟩:=t9.look k;refine rM bc (rI (Zb c9 rfl) (rS (Zb c9 rfl) (rS (Zb c9 rfl) (rS (Zb c9 rfl) ?_))));obtain⟨n,E⟩:=ZAL t2 k
   rcases S with⟨A,_⟩ |⟨q9,n9,A,bf,aC,S,aD⟩
   ·rw[E]at A;cases A
   rw[E]at A;cases A;refine S _ ⟨_,rfl,ZR (Zb p9 rfl),hf a q9 n _ bf x9 λe T n10 H=>?_⟩;have t10:=aD T _ n10 H
   have aE:∀j,O9 j->O j\/sz l<=j:=λj d=>by
     rcases g9 j d with g|g
     ·rcases v j g with g|g
      ·exact .inl g
      ·exact .inr g.1
     ·exact .inr (by omega)
   have bg:obj T (sz h)=_:=(H.old (sz h) (Zp p9) (λr=>by
     rcases aE _ (aC _ r).1 with g|g
     ·exact nO _ (Aqo _) g
     ·omega)).trans p9
   refine⟨ZR (Zb bg rfl),?_⟩;rw[aZ];have bh:(t2.make k).on k g=(t2.make k).put k (g n):=by unfold Tree.on;rw[E]
   refine hQ _ _ ⟨i+1,(ZI c).drop (i+1),(t2.make k).on k g,O9,rfl,F,rfl,aq,by rw[bh];exact t10,ZDN aY,?_,?_,?_⟩ (by show(ZI c).length- ((i+1:Nat):Int).toNat<(ZI c).length- ((i:Nat):Int).toNat;omega)
   ·refine ZmT (ZmT (hu.trans (e8.upd O)) u9 λj d U=>Classical.byContradiction λr=>aA j d r U) H λj d hq=>?_
    rcases aE j (aC j hq).1 with g|g
    ·exact g
    ·omega
   ·intro j d;have bR:sz a<=sz T:=H.size
    rcases g9 j d with g|g
    ·rcases v j g with g|g
     ·exact .inl g
     ·exact .inr (by omega)
    ·exact .inr (by omega)
   ·exact λj d=>bb j (au j d)
  ·have bj:Z=[]:=by rw[<-R];exact Ayo (by omega)
   subst bj;refine rP (Zb p6 rfl) (rI (Zb c6 rfl) (Zg (ar.setLast λh7 t7 u7=>Za (hk h7 O2 ?_ ?_ ?_))))
   ·rw[<-aq];exact t7
   ·refine ZmT ((z.upd O).trans hu) u7 λj d U=>?_;have bk:sz h<=sz l:=z.size
    rcases v j U with g|g
    ·exact g
    ·omega
   ·have w7:sz m<=sz h7:=u7.size;have bk:sz h<=sz l:=z.size;refine⟨λj d=>?_,au⟩
    rcases v j d with g|g
    ·exact .inl g
    ·exact .inr (by omega)
abbrev ZnZ(c:C8):Obj:=.cells (c8L c).toArray 25 (0,0)
theorem Zvn{c:C8}{cb:Nat}(h:Zf)(q:Nat)(n:Node)(K:Int->Zf->Prop)(d:Zfx h q n)(a:obj h cb=some (ZnZ c))(f:∀e h',Zfx h' q (n.passed c.1 c.2.2.2.2.2.1)->Upd (inN q) h h'->K e h'):
    Zcq (some ⟨q+4,0,none⟩) (some ⟨cb,0,none⟩) K h:=by
  unfold Zcq ZeU;refine Za (Zg (rI (Zb a rfl) (Zg (rI (Zb a rfl) (ZH λh1 c1 b k=>?_)))));exact Zv1 (d.ext b) (Zje c1 rfl) λg i j=>Za (f _ g i (ZF6 b j))
theorem Ztk{c:C8}{cb:Nat}(h:Zf)(q:Nat)(n:Node)(K:Int->Zf->Prop)(d:Zfx h q n)(a:obj h cb=some (ZnZ c))(f:∀e h',Zfx h' q (n.blocked c.1 c.2.2.2.2.2.1)->Upd (inN q) h h'->K e h'):
    Zbx (some ⟨q+4,0,none⟩) (some ⟨cb,0,none⟩) K h:=by
  unfold Zbx Zd2;refine Za (Zg (rI (Zb a rfl) (Zg (rI (Zb a rfl) (ZH λh1 c1 b k=>?_)))));exact Ztu (d.ext b) (Zje c1 rfl) λg i j=>Za (f _ g i (ZF6 b j))
def Tree.passed(t:Tree)(c:C8):Tree:=t.noted c true λn=>n.passed c.1 c.2.2.2.2.2.1
def Tree.blocked(t:Tree)(c:C8):Tree:=t.noted c false λn=>n.blocked c.1 c.2.2.2.2.2.1
theorem Zs7{O O':Nat->Prop}{h h1 h':Zf}(e:Ext h h1)(g:Zsi O O' h1 h'):Zsi O O' h h':=by
  refine⟨λj a=>?_,g.2⟩;have:sz h<=sz h1:=e.size
  rcases g.1 j a with g|g
  ·exact .inl g
  ·exact .inr (by omega)
theorem ZvW{h:Zf}{tb:Nat}{O:Nat->Prop}{t:Tree}(d:Zak h tb O t)(b:∀j,O j->j<sz h){c:C8}(hz:Zic c){K:Int->Zf->Prop}
    (f:∀e h' O',Zak h' tb O' (t.passed c)->Upd O h h'->Zsi O O' h h'->K e h'):ZbO (some ⟨tb,0,none⟩) c K h:=by
  unfold ZbO Zf8;refine ZH λh1 c1 a q=>Za (rI (Zb c1 rfl) (rS (Zb c1 rfl) (rS (Zb c1 rfl) (rS (Zb c1 rfl) (rB (Zb c1 rfl) (rI (Zb c1 rfl) (rL (Zb c1 rfl) ?_)))))))
  exact ZoX (x:=ZnZ c) (cb:=sz h) (g:=λn=>n.passed c.1 c.2.2.2.2.2.1) (Zvn (c:=c)) (d.ext a) (λj i=>by have:=b j i;have:sz h<=sz h1:=a.size;omega) c1 (λk=>by have:=b _ k;omega) (c:=c) hz
    λl m t2 o p=>Za (f _ l m t2 ((a.upd O).trans o) (Zs7 a p))
theorem Ztq{h:Zf}{tb:Nat}{O:Nat->Prop}{t:Tree}(d:Zak h tb O t)(b:∀j,O j->j<sz h){c:C8}(hz:Zic c){K:Int->Zf->Prop}
    (f:∀e h' O',Zak h' tb O' (t.blocked c)->Upd O h h'->Zsi O O' h h'->K e h'):Zbg (some ⟨tb,0,none⟩) c K h:=by
  unfold Zbg Zfk;refine ZH λh1 c1 a q=>Za (rI (Zb c1 rfl) (rS (Zb c1 rfl) (rS (Zb c1 rfl) (rS (Zb c1 rfl) (rB (Zb c1 rfl) (rI (Zb c1 rfl) (rL (Zb c1 rfl) ?_)))))))
  exact ZoX (x:=ZnZ c) (cb:=sz h) (g:=λn=>n.blocked c.1 c.2.2.2.2.2.1) (Ztk (c:=c)) (d.ext a) (λj i=>by have:=b j i;have:sz h<=sz h1:=a.size;omega) c1 (λk=>by have:=b _ k;omega) (c:=c) hz
    λl m t2 o p=>Za (f _ l m t2 ((a.upd O).trans o) (Zs7 a p))
def Tree.makes:List K4->Tree->Tree
  |[],t=>t
  |k::l,t=>Tree.makes l (t.make k)
def Tree.touchE(t:Tree)(c:C8):Int:=if ZgZ c≠0 then ZgZ c else if ¬t.room (ZI c)then 3 else 0
def Tree.touched(t:Tree)(c:C8):Tree:=if t.touchE c=0 then t.makes (ZI c)else t
theorem ZvU{h:Zf}{tb:Nat}{O:Nat->Prop}{t:Tree}(ht:Zak h tb O t)(hO:∀j,O j->j<sz h){c:C8}(hz:Zic c){cs:Sl}(I:Row h cs 7 (c8L c))(aN:∀b,cs.blk=some b->¬O b){K:Int->Zf->Prop}
    (v:∀h' O',Zak h' tb O' (t.touched c)->Upd O h h'->Zsi O O' h h'->K (t.touchE c) h'):Zc3 (some ⟨tb,0,none⟩) cs K h:=by
  have A:cs.len=1:=by have:=I.len;simp[c8L]at this;omega
  have no:∀e (d:Zf),Ext h d->e≠0->t.touchE c=e->K e d:=λe d e9 h1 Y=>by
    have:=v d O (by unfold Tree.touched;rw[if_neg (by rw[Y];exact h1)];exact ht.ext e9) (e9.upd _) ⟨λj f=>.inl f,λj f=>f⟩;rwa[Y]at this
  unfold Zc3 Zfj;refine Za (Zt (ZaE (λp r=>Ext h r/\((p=(⟨none,0,0⟩,0,())/\r=h)\/(p.2.1=1/\ZgZ c=0/\Own r (sz h) p.1 4 ((ZI c).flatMap k4L)))) (λp _=>(1-p.2.1).toNat) ⟨Ext.refl _,.inl ⟨rfl,rfl⟩⟩ ?_));rintro⟨al,i,u⟩ r ⟨he,⟨Z,af⟩ |⟨Z,hE,ho⟩⟩ Q hQ
  ·injection Z with p1 p2
   injection p2 with p2 p3;subst p1;subst p2;subst af;dsimp only;rw[A];refine Yz ?_;obtain⟨b,o,ai,aj,w,a⟩:=Za5 (α:=C8) (g:=c8L) (n:=7) (λ_=>rfl) (l:=[c]) (by simpa using I) (i:=0) rfl (by decide);have B:∀{K:Nat->Nat->Prop},K b o->YI cs.ptr 1 0 7 K:=λ{K} v=>by have:=w (K:=K) (m:=0) rfl v;rwa[A]at this
   refine B (rI (a 0 _ rfl) (rS (a 1 _ rfl) (rS (a 2 _ rfl) (rS (a 3 _ rfl) (rB (a 4 _ rfl) (rI (a 5 _ rfl) (rL (a 6 _ rfl) (ZH λh1 c1 e1 z1=>Zaw c1 λY C u2 z2=>?_))))))));have e2:Ext r Y:=e1.then u2 λk v=>by subst v;exact Aqo _
   refine rI (Zb C rfl) (rS (Zb C rfl) (rS (Zb C rfl) (rS (Zb C rfl) (rB (Zb C rfl) (rI (Zb C rfl) (rL (Zb C rfl) ?_))))));refine Zlr (c:=c) hz λs h4 e4 o4=>Za (ZbG (λJ=>Za (no _ h4 (e2.trans e4) J (by unfold Tree.touchE;rw[if_pos J]))) λJ=>?_);rw[if_pos J]at o4;refine o4.row.rd ?_;have hlen:=o4.len;rw[YM ZbF]at hlen;have L:(ZI c).length=s.len:=Ayd (by decide) hlen;refine ZHU (l:=[]) (Own.nil h4 (sz r) 4) L (by have:=ZmD c;simp only[Ayb];omega) (e2.trans e4).size λs5 y o5 _ u5=>hQ _ _ ⟨(e2.trans e4).then u5 λk v=>(by cases v),.inr ⟨rfl,J,o5⟩⟩ (show(1-IntKind.wrap .i64 (0+1)).toNat<(1-(0:Int)).toNat by decide)
  dsimp only at Z ho⊢;subst Z;rw[A];refine Zt (Zg (Zg ?_));have aT:=ZmD c;have t1:=ht.ext he;obtain⟨ks,M,aq,aU⟩:=t1.keys;refine rL M (Zpj t1 ho.row (Zfh c) (by omega) λy G=>?_);have t5:=t1.ext G;have N:ZA 1 (obj y tb)=some (slV ks):=by rw[ZB G t1.lt];exact M
  refine⟨ZR N,?_⟩;rw[aq,Yj (by omega) (by omega)];have x:((t.freshN (ZI c):Int)>512-(t.keys.length:Int))↔¬t.room (ZI c):=by unfold Tree.room;omega
  refine Zo (λq5=>Za (no 3 y (he.trans G) (by decide) ?_)) λq5=>?_
  ·unfold Tree.touchE;rw[if_neg (λd=>d hE),if_pos (x.1 q5)]
  have hr:t.room (ZI c):=Classical.byContradiction λd=>q5 (x.2 d);have P:t.touchE c=0:=by unfold Tree.touchE;rw[if_neg (λd=>d hE),if_neg (λd=>d hr)]
  have hN:t.touched c=t.makes (ZI c):=by unfold Tree.touched;rw[if_pos P]
  rw[P,hN]at v;have hlen:=ho.row.len;rw[YM ZbF]at hlen;have L:al.len=(ZI c).length:=(Ayd (by decide) hlen).symm;have D:=he.trans G;have w5:sz h<=sz y:=D.size
  have rows:∀b,al.blk=some b->sz h<=b/\b<sz y:=λb hb=>by
    have d:sz h<=b/\b<sz r:=ho.lt hb;have:sz r<=sz y:=G.size;omega
  refine ZaE (λp r=>∃(i:Nat) (H:List K4) (t2:Tree) (O2:Nat->Prop),p=((i:Int),())/\i<=(ZI c).length/\(ZI c).drop i=H/\Tree.makes H t2=Tree.makes (ZI c) t/\Zak r tb O2 t2/\t2.room H/\Upd O y r/\Zsi O O2 y r)
    (λp _=>(ZI c).length- p.1.toNat) ⟨0,_,t,O,rfl,Aye _,rfl,rfl,t5,hr,Upd.refl _ _,λj f=>.inl f,λj f=>f⟩ ?_
  rintro _ R ⟨i,H,t2,O2,rfl,aW,E,S,T,av,hu,F,U⟩ Q hQ;have nO:∀j,sz h<=j->¬O j:=λj f d=>by have:=hO j d;omega
  have w6:sz y<=sz R:=hu.size;dsimp only;refine Zo (λq=>?_) λq=>?_
  ·have z:i<(ZI c).length:=by omega
   have hg:(ZI c)[i]?=some (ZI c)[i]:=Axy z;have V:H=(ZI c)[i]::(ZI c).drop (i+1):=by rw[<-E];exact Aym z
   generalize (ZI c)[i]=k at hg V;subst V
   have aw:k∉(ZI c).drop (i+1):=by
     have:=Zfh c;rw[<-Ayl i (ZI c),List.nodup_append]at this;rw[E]at this;exact(Ayn.1 this.2.1).1
   obtain⟨ax,ay⟩:=Zm7 av aw;have W:Row R al 4 ((ZI c).flatMap k4L):=(ho.row.ext G).congr λb o hb _ hl=>hu.old b hl (nO _ (rows b (by simp[Sl.blk,hb])).1);obtain⟨b,o,ai,aj,w,a⟩:=Za5 ZbF W hg (by decide);have az:IntKind.wrap .i64 ((i:Int)+1)=((i+1:Nat):Int):=wrS z (by omega);refine w rfl (rI (a 0 _ rfl) (rS (a 1 _ rfl) (rS (a 2 _ rfl) (rS (a 3 _ rfl) (ZH λh7 c7 e7 z7=>Zaw c7 λh8 c8 u8 z8=>?_)))));have e8:Ext R h8:=e7.then u8 λk v=>by subst v;exact Aqo _
   refine Zg (rI (Zb c8 rfl) (rS (Zb c8 rfl) (rS (Zb c8 rfl) (rS (Zb c8 rfl) ?_))));refine Zo5 (k:=k) (T.ext e8) ax λd O9 t9 u9 g9 aC=>?_;have w8:sz R<=sz h8:=e8.size;have w9:sz h8<=sz d:=u9.size;rw[az];refine hQ _ _ ⟨i+1,(ZI c).drop (i+1),t2.make k,O9,rfl,z,rfl,S,t9,ay,ZmT (hu.trans (e8.upd O)) u9 λj f aD=>?_,?_,?_⟩ (by show(ZI c).length- ((i+1:Nat):Int).toNat<(ZI c).length- ((i:Nat):Int).toNat;omega)
   ·rcases F j aD with g|g
    ·exact g
    ·omega
   ·intro j f
    rcases g9 j f with g|g
    ·rcases F j g with g|g
     ·exact .inl g
     ·exact .inr (by omega)
    ·exact .inr (by omega)
   ·exact λj f=>aC j (U j f)
  ·have aE:H=[]:=by rw[<-E];exact Ayo (by omega)
   subst aE;have X:t2=Tree.makes (ZI c) t:=S;refine Za (v R O2 (by rw[<-X];exact T) ((D.upd O).trans hu) (Zs7 D ⟨F,U⟩))
abbrev F12:=ByteArray×ByteArray×Bool×Int×Int×ByteArray×Int×Int×Int×Bool×Int×Bool×Unit
abbrev B7:=ByteArray×Int×Int×Int×Int×Int×Int×Unit
def b7L(r:B7):List Value:=[.string r.1,.int .u8 r.2.1,iv r.2.2.1,iv r.2.2.2.1,iv r.2.2.2.2.1,iv r.2.2.2.2.2.1,iv r.2.2.2.2.2.2.1]
abbrev R5:=Sl×Sl×Sl×Sl×Sl×Unit
def r5L(r:R5):List Value:=[slV r.1,slV r.2.1,slV r.2.2.1,slV r.2.2.2.1,slV r.2.2.2.2.1]
theorem Zxh{h h':Zf}{base:Nat}{s:Sl}{size:Nat}{vs:List Value}(ho:Own h base s size vs)(e:Ext h h'):Own h' base s size vs:=ho.congr λb _ hl _=>e.old b hl
theorem ZtY{h h':Zf}{base x:Nat}{s:Sl}{size:Nat}{vs:List Value}(ho:Own h base s size vs)(u:Upd (· = x) h h')(a:x<base):Own h' base s size vs:=ho.congr λb _ hl c=>u.old b hl (by omega)
theorem ZGc{h:Zf}{b:Nat}{l:List Value}{t:TypeId}(a:obj h b=some (.cells l.toArray t (0,0)))(c:List Value){o:Nat}{vs:List Value}{K:Zf->Prop}
    (d:∀h',obj h' b=some (.cells c.toArray t (0,0))->Upd (· = b) h h'->sz h'=sz h->K h') (ho:Nat.ble (o+vs.length) l.length=true:=by rfl) (hv:vs.all Zr=true:=by rfl) (e:ZeJ o vs l=c:=by rfl):sts h b o vs K:=by
  rw[ZoJ (by rw[a,ZiV,decide_eq_true_eq];exact Awt ho) hv];refine d _ ?_ (ZfA (Upd.refl _ _) (.inr rfl)) Zim;rw[Zk7,if_pos rfl,a,Zer,e]
abbrev ZBr(r:R5)(g:Int):List Value:=r5L r++[iv g]
abbrev ZoK(r:R5)(g:Int):Obj:=.cells (ZBr r g).toArray 97 (0,0)
abbrev r0:R5:=(⟨none,0,0⟩,⟨none,0,0⟩,⟨none,0,0⟩,⟨none,0,0⟩,⟨none,0,0⟩,())
theorem ZyB{h:Zf}{K:Option Addr->Zf->Prop}(a:∀h',obj h' (sz h)=some (ZoK r0 0)->Ext h h'->sz h'=sz h+1->K (some ⟨sz h,0,none⟩) h'):ZdQ K h:=by unfold ZdQ Zgj;exact ZH λh1 c1 b c=>a h1 c1 b c
abbrev wL(w:W3):List Value:=[.int .u64 w.1,.int .u64 w.2.1,.bool w.2.2.1]
theorem ZNT(w:W3)(h1:0<=w.1/\w.1<18446744073709551616){c:Int}(V:c≠0)(D: -9223372036854775808<=c)(E:c<=9223372036854775807)(up:Bool):∃(n:Int) (ok:Bool),∀{K:Int->Bool->Zf->Prop} {h:Zf},(∀h',Ext h h'->K n ok h')->Zc9 w c up K h:=by
  obtain⟨d,hd,F,G⟩:=ZsM c;have C:=F V D E;have H:0<=Int.tmod w.1 d:=Int.tmod_nonneg _ h1.1;have I:Int.tmod w.1 d<d:=Int.tmod_lt_of_pos _ (by omega);obtain⟨q,rem,hq,hdiv⟩:=ZBi (lo:=w.2.1) H I hd.2;generalize J:(w.2.2.1 !=decide (c<0))=B;generalize L:IntKind.wrap .u64 (Int.tdiv w.1 d)=hi
  have last:∀(a b:Int) (f:Bool),∃(n:Int) (ok:Bool),∀{K:Int->Bool->Zf->Prop} {h r:Zf} {wb:Nat},Ext h r->sz h<=wb->obj r wb=some (.cells (wL (a,b,f,())).toArray 361 (0,0))->(∀h',Ext h h'->K n ok h')->
      Zfb (σ:=Unit) (λM i=>ldI i wb 0 .u64 λt26=>ldI i wb (0+1) .u64 λt27=>ldB i wb (0+2) λt28=>YQ (t26,t27,t28,()) (λt29 t30 t=>Zc t29 λt32=>Zq t30 λt33=>K t32 t33 t) i) (λm=>
       ldI r wb 0 .u64 λt21=>ldI r wb (0+1) .u64 λt22=>Zl (bif t21==0 then(bif t22==0 then true else false)else false) (st r wb (0+2) (.bool false) λu=>m (()) u) (m (()) r)):=λa b f=>by
    by_cases z:(bif a==0 then(bif b==0 then true else false)else false)=true
    ·obtain⟨n,ok,N⟩:=Znk (a,b,false,());refine⟨n,ok,λ{K h r wb} e o j l=>XN (rI (Zb j rfl) (rI (Zb j rfl) (Zn z (Zbs j (show 0+2<3 by decide) rfl λW v O X=>rI (Zb v rfl) (rI (Zb v rfl) (rB (Zb v rfl) (N λx y=>Za (Zd (l x ?_)))))))))⟩;exact(e.then O λk l=>by subst l;exact o).trans y
    ·obtain⟨n,ok,N⟩:=Znk (a,b,f,());exact⟨n,ok,λ{K h r wb} e o j l=>XN (rI (Zb j rfl) (rI (Zb j rfl) (Zi (by simpa using z) (rI (Zb j rfl) (rI (Zb j rfl) (rB (Zb j rfl) (N λx y=>Za (Zd (l x (e.trans y))))))))))⟩
  have start:∀{K:Int->Bool->Zf->Prop} {h:Zf},(∀(g:Zf) (wb:Nat),Ext h g->sz h<=wb->obj g wb=some (.cells (wL (hi,q,B,())).toArray 361 (0,0))->
      Zfb (σ:=Unit) (λs p=>Zfb (σ:=Unit) (λM i=>ldI i wb 0 .u64 λt26=>ldI i wb (0+1) .u64 λt27=>ldB i wb (0+2) λt28=>YQ (t26,t27,t28,()) (λt29 t30 t=>Zc t29 λt32=>Zq t30 λt33=>K t32 t33 t) i) (λm=>
       ldI p wb 0 .u64 λt21=>ldI p wb (0+1) .u64 λt22=>Zl (bif t21==0 then(bif t22==0 then true else false)else false) (st p wb (0+2) (.bool false) λu=>m (()) u) (m (()) p))) (λA=>
       Zl (rem !=0) (ldB g wb (0+2) λt15=>Zl (t15 !=up) (ldI g wb (0+1) .u64 λt16=>Zu (Int.toNat 0<=1)<|Zc (Zr3 t16 1 0) λlo=>Zc (ZrS t16 1 0) λcarry=>ldI g wb 0 .u64 λt17=>sts g wb 0 [.int .u64 (IntKind.wrap .u64 (t17+carry)),.int .u64 lo] λP=>A (()) P) (A (()) g)) (A (()) g)))->Zc9 w c up K h:=λ{K h} Y=>by
    unfold Zc9 ZiN;refine ZH λh1 c1 Q z1=>Za (G (Za (rI (Zb c1 rfl) ⟨C,rI (Zb c1 rfl) (hdiv ⟨ZR (Zb c1 rfl),Za (Za (rI (Zb c1 rfl) ⟨C,rB (Zb c1 rfl) (ZH λh2 Z R z2=>⟨ZR (Zb (Zj c1 R) rfl),ZR (Zb (Zj c1 R) rfl),?_⟩)⟩))⟩)⟩)));rw[J,L];exact Zaw Z λh3 c3 u3 z3=>Y h3 _ ((Q.trans R).then u3 λk l=>by subst l;exact Q.size) Q.size c3
  by_cases r0:rem=0
  ·obtain⟨n,ok,hl⟩:=last hi q B;exact⟨n,ok,λ{K h} l=>start λg wb e o j=>XN (Zi (by rw[r0];rfl) (hl e o j l))⟩
  ·by_cases U:(B !=up)=true
   ·obtain⟨n,ok,hl⟩:=last (IntKind.wrap .u64 (hi+ZrS q 1 0)) (Zr3 q 1 0) B;refine⟨n,ok,λ{K h} l=>start λg wb e o j=>XN (Zn (by simpa using r0) (rB (Zb j rfl) (Zn U (rI (Zb j rfl) ⟨by decide,Za (Za (rI (Zb j rfl) (ZGc j (wL (IntKind.wrap .u64 (hi+ZrS q 1 0),Zr3 q 1 0,B,())) λaf S T ag=>hl ?_ o S l)))⟩))))⟩;exact e.then T λk l=>by subst l;exact o
   ·obtain⟨n,ok,hl⟩:=last hi q B;exact⟨n,ok,λ{K h} l=>start λg wb e o j=>XN (Zn (by simpa using r0) (rB (Zb j rfl) (Zi (by simpa using U) (hl e o j l))))⟩
theorem Zr5(a b:Int){c:Int}(d: -9223372036854775808<=c)(f:c<=9223372036854775807)(up:Bool):∃(n e:Int),∀{K:Int->Int->Zf->Prop} {h:Zf},(∀h',Ext h h'->K n e h')->ZcL a b c up K h:=by
  by_cases q:c=0
  ·refine⟨0,9,λ{K h} g=>?_⟩;unfold ZcL Zhw;exact Za (Za (Zn (by rw[q];rfl) (Za (Za (g h (Ext.refl _))))))
  ·obtain⟨w,w1,p,j⟩:=ZoT a b;obtain⟨n,ok,k⟩:=ZNT w w1 q d f up;refine⟨if ok=true then n else 0,if ok=true then 0 else 8,λ{K h} g=>?_⟩;unfold ZcL Zhw;have i:∀{K:Int->Bool->Zf->Prop} {h:Zf},(∀h',Ext h h'->K n ok h')->Zc9 (w.1,w.2.1,w.2.2.1,()) c up K h:=k;exact Za (Za (Zi (by simpa using q) (j λh1 l=>i λm o=>ZmU (Za (Za (g m (l.trans o)))))))
abbrev Pc:=Int×Bool×Int×Int×Int×Unit
abbrev pcL(p:Pc):List Value:=[iv p.1,.bool p.2.1,iv p.2.2.1,iv p.2.2.2.1,iv p.2.2.2.2.1]
abbrev pcO(p:Pc):Obj:=.cells (pcL p).toArray 221 (0,0)
theorem ZyE{count queue:Int}(h1:1<=count/\count<=1099511627776)(d:0<=queue/\queue<=3600000000){K:Option Addr->Int->Zf->Prop}{h:Zf}(a:∀h',obj h' (sz h)=some (pcO (0,false,count,queue,0,()))->Ext h h'->sz h'=sz h+1->K (some ⟨sz h,0,none⟩) 0 h'):ZfY count queue K h:=by unfold ZfY ZjK;exact Za (Zo (λq=>by omega) λ_=>Zo (λq=>by omega) λ_=>Zo (λq=>by omega) λ_=>Zo (λq=>by omega) λ_=>ZH λh1 c1 b c=>Za (a h1 c1 b c))
theorem ZEW(count a:Int):∃cost err:Int,∀{K:Int->Int->Zf->Prop} {h:Zf},(∀h',Ext h h'->K cost err h')->Zac count a K h:=by
  by_cases d:count<1
  ·exact⟨0,2,λ{K h} b=>by unfold Zac ZbJ;exact Za (Za (Zn (decide_eq_true d) (Za (Za (b h (Ext.refl _))))))⟩
  by_cases f:count>1099511627776
  ·exact⟨0,2,λ{K h} b=>by unfold Zac ZbJ;exact Za (Za (Zi (decide_eq_false d) (Zn (decide_eq_true f) (Za (Za (b h (Ext.refl _)))))))⟩
  by_cases g:a<1
  ·exact⟨0,2,λ{K h} b=>by unfold Zac ZbJ;exact Za (Za (Zi (decide_eq_false d) (Zi (decide_eq_false f) (Zn (decide_eq_true g) (Za (Za (b h (Ext.refl _))))))))⟩
  by_cases i:a>1099511627776
  ·exact⟨0,2,λ{K h} b=>by unfold Zac ZbJ;exact Za (Za (Zi (decide_eq_false d) (Zi (decide_eq_false f) (Zi (decide_eq_false g) (Zn (decide_eq_true i) (Za (Za (b h (Ext.refl _)))))))))⟩
  obtain⟨n,e,hm⟩:=Zr5 count 1000000 (c:=a) (by omega) (by omega) true;exact⟨n,e,λ{K h} b=>by unfold Zac ZbJ;exact Za (Za (Zi (decide_eq_false d) (Zi (decide_eq_false f) (Zi (decide_eq_false g) (Zi (decide_eq_false i) (hm λh1 j=>Za (Za (b h1 j))))))))⟩
theorem Zrn{p:Pc}{b:Nat}{h:Zf}(a:obj h b=some (pcO p)){K:Int->Bool->Zf->Prop}(c:K p.1 p.2.1 h):XV (some ⟨b,0,none⟩) K h:=by unfold XV Ze2;exact Za (Zg (rI (Zb a rfl) (Zg (rB (Zb a rfl) (Za (Zd c))))))
theorem ZoU{p:Pc}{b:Nat}{h:Zf}(a:obj h b=some (pcO p)){K:Int->Zf->Prop}(c:K p.2.2.1 h):ZaX (some ⟨b,0,none⟩) K h:=by unfold ZaX Ze3;exact Za (Zi rfl (Zg (rI (Zb a rfl) (Za c))))
theorem ZEq(p:Pc)(at_ cost:Int):∃d:Int,∀{b:Nat} {h:Zf} {J:Int×Unit->Zf->Prop},obj h b=some (pcO p)->(∀h',Ext h h'->J (d,()) h')->Ze (some ⟨b,0,none⟩) λf g=>XV (some ⟨f,g,none⟩) (λt21 t22 e=>Zc t21 λt24=>Zq t22 λsome_=>Zl some_ (
      newC e [iv t24,iv cost] 3 λi j=>Zda ⟨some ⟨i,0,none⟩,2,2⟩ (λt27 l=>Zc (Zid at_ t27) λc=>J (c,()) l) j) (J (at_,()) e)) h:=by
  obtain⟨a,s,rest⟩:=p;obtain⟨v,hv⟩:=Zuw a cost
  cases s with
  |true=>exact⟨Zid at_ v,λ{b h J} m o=>Zg (Zrn m (Za (Zd (Yz (ZH λh1 c1 q r=>hv (ZBv (k:=2) (n:=1) c1 rfl (by decide)) (Za (o h1 q)))))))⟩
  |false=>exact⟨at_,λ{b h J} m o=>Zg (Zrn m (Za (Zd (Zt (o h (Ext.refl _))))))⟩
def Pc.went(p:Pc)(at_:Int):Option (Int×Bool)->Pc
  |none=>p
  |some (a,ok)=>if ok=true then(a,true,p.2.2.1,p.2.2.2.1,at_,())else(p.1,p.2.1,p.2.2.1,p.2.2.2.1,at_,())
def ZHk(p:Pc)(at_ count a:Int)(R:Int×Bool×Int):Prop:=∀{b:Nat} {h:Zf} {K:Int->Bool->Int->Zf->Prop},obj h b=some (pcO p)->(∀h',Ext h h'->K R.1 R.2.1 R.2.2 h')->Z6 (some ⟨b,0,none⟩) at_ count a K h
def ZHl(p:Pc)(at_ count a:Int)(R:Int×Bool×Int)(g:Option (Int×Bool)):Prop:=∀{b cb:Nat} {h:Zf} {K:Int->Bool->Int->Zf->Prop},obj h b=some (pcO p)->obj h cb=some (.cells [iv at_].toArray 3 (0,0))->cb≠b->(∀h',obj h' b=some (pcO (p.went at_ g))->Upd (· = b) h h'->K R.1 R.2.1 R.2.2 h')->Z5 (some ⟨b,0,none⟩) at_ count a (some ⟨cb,0,none⟩,()) K h
theorem Ztn(p:Pc)(at_ count f:Int):∃R g,ZHk p at_ count f R/\ZHl p at_ count f R g:=by
  obtain⟨cost,err,c⟩:=ZEW count f;obtain⟨a,l⟩:=ZEq p at_ cost
  have bad:∀R:Int×Bool×Int,(∀{b:Nat} {h k:Zf} {K:Int->Bool->Int->Zf->Prop} {X:Prop},obj k b=some (pcO p)->Ext h k->K R.1 R.2.1 R.2.2 k->(Zl (decide (at_<0)) (Zc 0 λt7=>Zc 2 λt8=>K t7 false t8 k) (Zl (decide (at_>1152921504606846976)) (Zc 0 λt9=>Zc 2 λt10=>K t9 false t10 k) (Zq (err !=0) λt11=>Zl t11 (Zc 0 λt12=>Zc 2 λt13=>K t12 false t13 k) (
        Ze (some ⟨b,0,none⟩) λb o=>ldI k b (o+4) .i64 λt14=>Zq (decide (at_<t14)) λt15=>Zl t15 (Zc 0 λt16=>Zc 7 λt17=>K t16 false t17 k) X)))))->ZHk p at_ count f R/\ZHl p at_ count f R none:=λR B=>by
    refine⟨λ{b h K} d i=>?_,λ{b cb h K} d q E i=>?_⟩
    ·unfold Z6 Yx;exact Za (Za (Zi rfl (c λh1 j=>Za (Za (B (Zj d j) j (i h1 j))))))
    ·unfold Z5 YT;exact Za (Za (Zi rfl (c λh1 j=>Za (Za (B (Zj d j) j (i h1 (Zj d j) (j.upd _)))))))
  by_cases m:at_<0
  ·exact⟨(0,false,2),none,bad (0,false,2) λ{b h k K X} d e i=>Zn (decide_eq_true m) (Za (Za i))⟩
  by_cases r:at_>1152921504606846976
  ·exact⟨(0,false,2),none,bad (0,false,2) λ{b h k K X} d e i=>Zi (decide_eq_false m) (Zn (decide_eq_true r) (Za (Za i)))⟩
  by_cases v:err=0
  case neg=>exact⟨(0,false,2),none,bad (0,false,2) λ{b h k K X} d e i=>Zi (decide_eq_false m) (Zi (decide_eq_false r) (Zd (Zn (by simpa using v) (Za (Za i)))))⟩
  by_cases w:at_<p.2.2.2.2.1
  ·exact⟨(0,false,7),none,bad (0,false,7) λ{b h k K X} d e i=>Zi (decide_eq_false m) (Zi (decide_eq_false r) (Zd (Zi (by rw[v];rfl) (Zg (rI (Zb d rfl) (Zd (Zn (decide_eq_true w) (Za (Za i)))))))))⟩
  have t:(err !=0)=false:=by rw[v];rfl
  generalize u:decide (IntKind.wrap .i64 (a- at_)<=p.2.2.2.1)=ok;refine⟨(if ok=true then IntKind.wrap .i64 (a- at_)else 0,ok,0),some (a,ok),λ{b h K} d i=>?_,λ{b cb h K} d q E i=>?_⟩
  ·unfold Z6 Yx;refine Za (Za (Zi rfl (c λh1 j=>Za (Za (Zi (decide_eq_false m) (Zi (decide_eq_false r) (Zd (Zi t (Zg (rI (Zb (Zj d j) rfl) (Zd (Zi (decide_eq_false w) (Za (ZkM (λ(s:Int×Unit) n=>s=(a,())/\Ext h n) ?_ λQ x=>l (Zj d j) λy z=>x _ _ ⟨rfl,j.trans z⟩))))))))))))));rintro _ n ⟨rfl,ex⟩;refine Zg (rI (Zb (Zj d ex) rfl) (Zd ?_));unfold Zdm Zdy;have A:decide (IntKind.wrap .i64 ((a,()).1-at_)<=p.2.2.2.1)=ok:=u;rw[A];have:=i n ex
   cases ok with
   |true=>exact Zi rfl (Za (Za this))
   |false=>exact Zn rfl (Za (Za this))
  ·unfold Z5 YT;refine Za (Za (Zi rfl (c λh1 j=>Za (Za (Zi (decide_eq_false m) (Zi (decide_eq_false r) (Zd (Zi t (Zg (rI (Zb (Zj d j) rfl) (Zd (Zi (decide_eq_false w) (Za (ZkM (λ(s:Int×Unit) n=>s=(a,())/\Ext h n) ?_ λQ x=>l (Zj d j) λy z=>x _ _ ⟨rfl,j.trans z⟩))))))))))))));rintro _ n ⟨rfl,ex⟩;refine Zg (rI (Zb (Zj d ex) rfl) (Zd ?_));unfold ZgY Zhc;have A:decide (IntKind.wrap .i64 ((a,()).1-at_)<=p.2.2.2.1)=ok:=u;rw[A];refine Zg (rI (Zb (Zj q ex) rfl) (Zg (Zbs (Zj d ex) (show 0+4<5 by decide) rfl λy C D H=>?_)))
   cases ok with
   | true=>
     refine Yz (Zg (ZGc C (pcL (a,true,p.2.2.1,p.2.2.2.1,at_,())) λh3 F G z3=>Zi rfl (Za (Za (i h3 ?_ ?_)))))
     ·have e:p.went at_ (some (a,true))=(a,true,p.2.2.1,p.2.2.2.1,at_,()):=by simp[Pc.went]
      rw[e];exact F
     ·exact((ex.upd _).trans D).trans G
   | false=>
     refine Zt (Zn rfl (Za (Za (i y ?_ ?_))))
     ·have e:p.went at_ (some (a,false))=(p.1,p.2.1,p.2.2.1,p.2.2.2.1,at_,()):=by simp[Pc.went]
      rw[e];exact C
     ·exact(ex.upd _).trans D
theorem Zux(p:Pc)(at_ count:Int):∃R:Int×Bool×Int,∀{b:Nat} {h:Zf} {K:Int->Bool->Int->Zf->Prop},obj h b=some (pcO p)->(∀h',Ext h h'->K R.1 R.2.1 R.2.2 h')->Zcv (some ⟨b,0,none⟩) at_ count K h:=by obtain⟨R,g,c,_⟩:=Ztn p at_ count p.2.2.1;refine⟨R,λ{b h K} a d=>?_⟩;unfold Zcv Ze4;exact Za (Za (ZoU a (c a λh1 e=>Za (Zd (Za (d h1 e))))))
theorem Zuy(p:Pc)(at_ count a:Int):∃(R:Int×Bool×Int) (e:Pc),∀{b:Nat} {h:Zf} {K:Int->Bool->Int->Zf->Prop},obj h b=some (pcO p)->(∀h',obj h' b=some (pcO e)->Upd (· = b) h h'->K R.1 R.2.1 R.2.2 h')->ZbV (some ⟨b,0,none⟩) at_ count a K h:=by obtain⟨R,g,_,f⟩:=Ztn p at_ count a;refine⟨R,p.went at_ g,λ{b h K} c i=>?_⟩;unfold ZbV Zgm ZeB ZgF;refine Za (Za (ZH λh1 c1 d m=>f (Zj c d) c1 (by have:=Zp c;simp only[YJ];omega) λj k l=>Za (Zd (Za (i j k ((d.upd _).trans l))))))
theorem ZBT(p:Pc)(at_ count:Int):∃d:Pc,∀{b:Nat} {h:Zf} {K:Int->Bool->Int->Zf->Prop},obj h b=some (pcO p)->(∀h' w ok e,obj h' b=some (pcO d)->Upd (· = b) h h'->K w ok e h')->ZdR (some ⟨b,0,none⟩) at_ count K h:=by obtain⟨R,g,_,f⟩:=Ztn p at_ count p.2.2.1;refine⟨p.went at_ g,λ{b h K} a i=>?_⟩;unfold ZdR Zgl ZeB ZgF;refine Za (Za (ZoU a (ZH λh1 c1 c m=>f (Zj a c) c1 (by have:=Zp a;simp only[YJ];omega) λj k l=>Za (Zd (Za (i j _ _ _ k ((c.upd _).trans l)))))))
theorem Zv0{p:Pc}{b:Nat}{h:Zf}{K:Option Addr->Zf->Prop}(a:obj h b=some (pcO p))(c:∀h',obj h' (sz h)=some (pcO p)->Ext h h'->sz h'=sz h+1->K (some ⟨sz h,0,none⟩) h'):Zcw (some ⟨b,0,none⟩) K h:=by unfold Zcw Ze5;refine Zi rfl (Zg (rI (Zb a rfl) (rB (Zb a rfl) (rI (Zb a rfl) (rI (Zb a rfl) (rI (Zb a rfl) (ZH λh1 c1 d e=>Zaw c1 λf g i j=>c f g (d.then i λk c=>by subst c;exact Aqo _) (j.trans e))))))))
abbrev Wm:=Int×Int×Int×Int×Int×Int×Int×Unit
abbrev wmL(w:Wm):List Value:=[iv w.1,iv w.2.1,iv w.2.2.1,iv w.2.2.2.1,iv w.2.2.2.2.1,iv w.2.2.2.2.2.1,iv w.2.2.2.2.2.2.1]
abbrev wmO(w:Wm):Obj:=.cells (wmL w).toArray 225 (0,0)
def Wm.new(count a:Int):Wm:=(count,a,IntKind.wrap .i64 (Int.tdiv (IntKind.wrap .i64 (IntKind.wrap .i64 (a*count)+1)) 2),IntKind.wrap .i64 (a*count),0, -1,0,())
theorem ZyA{count a:Int}(h1:1<=count/\count<=1099511627776)(e:1<=a/\a<=3600){K:Option Addr->Int->Zf->Prop}{h:Zf}(b:∀h',obj h' (sz h)=some (wmO (Wm.new count a))->Ext h h'->sz h'=sz h+1->K (some ⟨sz h,0,none⟩) 0 h'):ZfV count a K h:=by unfold ZfV ZjB;exact Za (Zo (λq=>by omega) λ_=>Zo (λq=>by omega) λ_=>Zo (λq=>by omega) λ_=>Zo (λq=>by omega) λ_=>Za ⟨by decide,ZH λh1 c1 c d=>Za (b h1 c1 c d)⟩)
theorem Zn7{w:Wm}{b:Nat}{h:Zf}{K:Option Addr->Zf->Prop}(a:obj h b=some (wmO w))(c:∀h',obj h' (sz h)=some (wmO w)->Ext h h'->sz h'=sz h+1->K (some ⟨sz h,0,none⟩) h'):ZaR (some ⟨b,0,none⟩) K h:=by unfold ZaR ZeQ;refine Zi rfl (Zg (rI (Zb a rfl) (rI (Zb a rfl) (rI (Zb a rfl) (rI (Zb a rfl) (rI (Zb a rfl) (rI (Zb a rfl) (rI (Zb a rfl) (ZH λh1 c1 d e=>Zaw c1 λf g i j=>c f g (d.then i λk c=>by subst c;exact Aqo _) (j.trans e))))))))))
def ZGz(n:Int):Bool:=decide (0<=n)&&decide (n<=4611686018427387904)
theorem ZAI{n:Int}{K:Bool->Zf->Prop}{h:Zf}(a:K (ZGz n) h):Zho n K h:=by
  unfold Zho ZjA;unfold ZGz at a;refine Zo (λq=>Zd ?_) λq=>?_
  ·rw[decide_eq_true (show 0<=n from q),Aqa]at a;exact a
  ·rw[decide_eq_false (show ¬ 0<=n from q),Aqb]at a;exact a
def ZfP(w:Wm)(at_:Int)(l:List Int):Int:=if at_<0 then 2 else if at_>1152921504606846976 then 2 else if l.all ZGz=false then 2 else if at_<w.2.2.2.2.2.2.1 then 7 else 0
theorem ZlA{w:Wm}{b:Nat}{h:Zf}(r:obj h b=some (wmO w)){at_:Int}{l:List Int}(hl:l.length<=100){s:Sl}(hs:Row h s 1 (l.map iv)){K:Int->Zf->Prop}(a:K (ZfP w at_ l) h):ZaQ (some ⟨b,0,none⟩) at_ s K h:=by
  unfold ZaQ ZeM;unfold ZfP at a;have t:s.len=l.length:=by have:=hs.len;simp at this;omega
  refine Za (Zi rfl (Zo (λq=>Za ?_) λq=>Zo (λg=>Za ?_) λg=>?_))
  ·rw[if_pos q]at a;exact a
  ·rw[if_neg q,if_pos g]at a;exact a
  rw[if_neg q,if_neg g]at a;refine ZaE (λp o=>∃i:Nat,p=((i:Int),())/\i<=l.length/\o=h/\(l.take i).all ZGz=true) (λp _=>l.length- p.1.toNat) ⟨0,rfl,Aye _,rfl,rfl⟩ ?_;rintro _ o ⟨i,rfl,u,j,k⟩ Q y;subst j;dsimp only;refine Zo (λz=>?_) λz=>?_
  ·have c:i<l.length:=by omega
   have f:l[i]?=some l[i]:=Axy c;generalize l[i]=x at f;refine hs.idx (n:=i) (v:=iv x) rfl (by rw[Awy,f];rfl) λA B _ m=>⟨x,m,Za (ZAI ⟨λd=>Za ?_,λd=>?_⟩)⟩
   ·have:l.all ZGz=false:=List.all_eq_false.2 ⟨x,Axo f,by simpa using d⟩;rw[if_pos this]at a;exact a
   ·rw[wrS c (by omega)];refine y _ _ ⟨i+1,rfl,c,rfl,?_⟩ (by show l.length- ((i+1:Nat):Int).toNat<l.length- ((i:Nat):Int).toNat;omega);rw[Ayk,f,Ayp,k];simpa using d
  ·have e:l.take i=l:=Awd (by omega);rw[e]at k;rw[if_neg (by rw[k];decide)]at a;refine Zg (rI (Zb r rfl) (Zo (λd=>Za ?_) λd=>Za ?_))
   ·rw[if_pos d]at a;exact a
   ·rw[if_neg d]at a;exact a
theorem ZEw(w:Wm)(at_ past:Int):∃tokens second:Int,∀{b:Nat} {h:Zf} {K:Int->Int->Zf->Prop},obj h b=some (wmO w)->(∀h',Ext h h'->K tokens second h')->XP (some ⟨b,0,none⟩) at_ past K h:=by
  generalize l:IntKind.wrap .i64 (at_-Int.tmod at_ 1000000)=sec
  by_cases q1:sec=w.2.2.2.2.2.1
  ·refine⟨w.2.2.2.2.1,sec,λ{b h K} a H=>?_⟩;unfold XP Zcy;refine Za (Za ⟨by decide,Za ?_⟩);rw[l];exact Zg (rI (Zb a rfl) (Zn (by simpa using q1) (Zg (rI (Zb a rfl) (Za (Za (H h (Ext.refl _))))))))
  have I:(sec==w.2.2.2.2.2.1)=false:=by simpa using q1
  have pre:∀(T:Int),(∀{b:Nat} {h:Zf} {J:Int×Unit->Zf->Prop},obj h b=some (wmO w)->(∀h',Ext h h'->J (T,()) h')->
      Ze (some ⟨b,0,none⟩) λL M=>ldI h L (M+5) .i64 λt14=>Zq (decide (t14<0)) λt15=>Zl t15 (Ze (some ⟨b,0,none⟩) λN O=>ldI h N (O+3) .i64 λt18=>Zc t18 λc=>J (c,()) h) (
       Ze (some ⟨b,0,none⟩) λP R=>ldI h P (R+4) .i64 λt22=>Ze (some ⟨b,0,none⟩) λS U=>ldI h S (U+2) .i64 λt25=>Zl (decide (t22<t25)) (
        Ze (some ⟨b,0,none⟩) λV W=>Ze (some ⟨b,0,none⟩) λy z=>ldI h V W .i64 λt30=>ldI h y (z+5) .i64 λt31=>Zu ((1000000:Int)≠0)<|
        ZcK t30 (IntKind.wrap .i64 (Int.tdiv (IntKind.wrap .i64 (sec- t31)) 1000000)) (λt32 o=>Zu (Zm o [(y,z+5,iv t31)])<|Zc t32 λf=>Ze (some ⟨b,0,none⟩) λp q=>ldI o p (q+3) .i64 λt36=>
         newC o [iv w.2.2.2.2.1,iv f] 3 λX A=>Zu (Zm A [(p,q+3,iv t36)])<|Zda ⟨some ⟨X,0,none⟩,2,2⟩ (λt39 B=>Zu (Zm B [(p,q+3,iv t36)])<|Zc (Zo2 t39 t36) λd=>J (d,()) B) A) h) (
        Ze (some ⟨b,0,none⟩) λY Z=>ldI h Y Z .i64 λt44=>Zu ((3:Int)≠0)<|Zq (decide (past<(IntKind.wrap .i64 (Int.tdiv t44 3)))) λt45=>Zl t45 (
         Ze (some ⟨b,0,none⟩) λaa ae=>Ze (some ⟨b,0,none⟩) λC D=>ldI h aa ae .i64 λt50=>ldI h C (D+5) .i64 λt51=>Zu ((1000000:Int)≠0)<|
         ZcK t50 (IntKind.wrap .i64 (Int.tdiv (IntKind.wrap .i64 (sec- t51)) 1000000)) (λt52 r=>Zu (Zm r [(C,D+5,iv t51)])<|Zc t52 λj=>Ze (some ⟨b,0,none⟩) λt u=>ldI r t (u+3) .i64 λt57=>
          newC r [iv w.2.2.2.2.1,iv j] 3 λaf E=>Zu (Zm E [(t,u+3,iv t57)])<|Zda ⟨some ⟨af,0,none⟩,2,2⟩ (λt60 F=>Zu (Zm F [(t,u+3,iv t57)])<|Zc (Zo2 t60 t57) λe=>J (e,()) F) E) h) (
         J (w.2.2.2.2.1,()) h))))->∃tokens second:Int,∀{b:Nat} {h:Zf} {K:Int->Int->Zf->Prop},obj h b=some (wmO w)->(∀h',Ext h h'->K tokens second h')->XP (some ⟨b,0,none⟩) at_ past K h:=λT hT=>by
    refine⟨Zid (IntKind.wrap .i64 (T- past)) 0,sec,λ{b h K} a H=>?_⟩;unfold XP Zcy;refine Za (Za ⟨by decide,Za ?_⟩);rw[l];refine Zg (rI (Zb a rfl) (Zi I (Zg (rI (Zb a rfl) (Za (ZkM (λ(s:Int×Unit) hx=>s=(T,())/\Ext h hx) ?_ λQ hQ=>hT a λh' e'=>hQ _ _ ⟨rfl,e'⟩))))));rintro _ hx ⟨rfl,ex⟩;exact Za (Za (H hx ex))
  by_cases G:w.2.2.2.2.2.1<0
  ·exact pre w.2.2.2.1 λ{b h J} a v=>Zg (rI (Zb a rfl) (Zd (Zn (decide_eq_true G) (Zg (rI (Zb a rfl) (Za (v h (Ext.refl _))))))))
  obtain⟨f,g⟩:=ZqO w.1 (IntKind.wrap .i64 (Int.tdiv (IntKind.wrap .i64 (sec- w.2.2.2.2.2.1)) 1000000));obtain⟨sum,m⟩:=Zuw w.2.2.2.2.1 f
  by_cases q3:w.2.2.2.2.1<w.2.2.1
  ·refine pre (Zo2 sum w.2.2.2.1) λ{b h J} a v=>Zg (rI (Zb a rfl) (Zd (Zi (decide_eq_false G) (Zg (rI (Zb a rfl) (Zg (rI (Zb a rfl) (Zn (decide_eq_true q3) (Zg (Zg (rI (Zb a rfl) (rI (Zb a rfl) ⟨by decide,g _ _ λh1 i=>⟨ZR (Zb (Zj a i) rfl),Za (Zg (rI (Zb (Zj a i) rfl) (ZH λh2 c2 x z2=>⟨ZR (Zb (Zj (Zj a i) x) rfl),m (ZBv (k:=2) (n:=1) c2 rfl (by decide)) ⟨ZR (Zb (Zj (Zj a i) x) rfl),Za (v h2 (i.trans x))⟩⟩)))⟩⟩))))))))))))
  by_cases q4:past<IntKind.wrap .i64 (Int.tdiv w.1 3)
  ·refine pre (Zo2 sum w.2.2.2.1) λ{b h J} a v=>Zg (rI (Zb a rfl) (Zd (Zi (decide_eq_false G) (Zg (rI (Zb a rfl) (Zg (rI (Zb a rfl) (Zi (decide_eq_false q3) (Zg (rI (Zb a rfl) ⟨by decide,Zd (Zn (decide_eq_true q4) (Zg (Zg (rI (Zb a rfl) (rI (Zb a rfl) ⟨by decide,g _ _ λh1 i=>⟨ZR (Zb (Zj a i) rfl),Za (Zg (rI (Zb (Zj a i) rfl) (ZH λh2 c2 x z2=>⟨ZR (Zb (Zj (Zj a i) x) rfl),m (ZBv (k:=2) (n:=1) c2 rfl (by decide)) ⟨ZR (Zb (Zj (Zj a i) x) rfl),Za (v h2 (i.trans x))⟩⟩)))⟩⟩)))))⟩))))))))))
  ·exact pre w.2.2.2.2.1 λ{b h J} a v=>Zg (rI (Zb a rfl) (Zd (Zi (decide_eq_false G) (Zg (rI (Zb a rfl) (Zg (rI (Zb a rfl) (Zi (decide_eq_false q3) (Zg (rI (Zb a rfl) ⟨by decide,Zd (Zi (decide_eq_false q4) (v h (Ext.refl _)))⟩))))))))))
theorem Zu0(n:Int): -9223372036854775808<=IntKind.wrap .i64 n/\IntKind.wrap .i64 n<=9223372036854775807:=by
  unfold IntKind.wrap;have b:(2:Int) ^ IntKind.i64.bits=18446744073709551616:=by decide
  have a:(2:Int) ^ (IntKind.i64.bits- 1)=9223372036854775808:=by decide
  have hs:IntKind.i64.signed=true:=rfl;simp only[b,a,hs,Aqa];split
  ·rename_i q;have:=of_decide_eq_true q;omega
  ·rename_i q;have:¬_:=λh=>q (decide_eq_true h);omega
theorem ZDG(c:Int×Int×Int×Int×Unit)(tokens:Int):ZNW (Zam c tokens):=by
  obtain⟨c1,m,f,g,u⟩:=c
  have start:∀(r:Int),(∀{h1:Zf} {b:Nat} {K:Int->Zf->Prop},obj h1 b=some (.cells [iv c1,iv m,iv f,iv g].toArray 223 (0,0))->(∀h',Ext h1 h'->K r h')->ldI h1 b (0+2) .i64 λt2=>Zl (decide (tokens<t2)) (ldI h1 b 0 .i64 λt3=>Zc t3 λt4=>K t4 h1) (
      ldI h1 b (0+2) .i64 λt5=>ldI h1 b (0+3) .i64 λt6=>Zl (t5==t6) (ldI h1 b 0 .i64 λt7=>Zc t7 λt8=>K t8 h1) (ldI h1 b (0+3) .i64 λt9=>ldI h1 b 0 .i64 λt10=>ldI h1 b (0+2) .i64 λt11=>ldI h1 b (0+3) .i64 λt12=>
        ZcL t9 t10 (IntKind.wrap .i64 ((IntKind.wrap .i64 ((4:Int)*(IntKind.wrap .i64 (tokens- t11))))+t12)) false (λt13 t14 i=>Zc t13 λr=>Zc t14 λx=>Zc (Zid r 1) λt16=>K t16 i) h1)))->ZNW (Zam (c1,m,f,g,u) tokens):=λr p=>⟨r,λK h d=>by
    unfold Zam Zd1
    exact ZH λh1 c1 q w=>Za (p c1 λh' s=>d h' (q.trans s))⟩
  by_cases j:tokens<f
  ·exact start c1 λ{h1 b K} a d=>rI (Zb a rfl) (Zn (decide_eq_true j) (rI (Zb a rfl) (Za (d h1 (Ext.refl _)))))
  by_cases o:f=g
  ·exact start c1 λ{h1 b K} a d=>rI (Zb a rfl) (Zi (decide_eq_false j) (rI (Zb a rfl) (rI (Zb a rfl) (Zn (by simpa using o) (rI (Zb a rfl) (Za (d h1 (Ext.refl _))))))))
  obtain⟨k,l⟩:=Zu0 (IntKind.wrap .i64 (4*IntKind.wrap .i64 (tokens- f))+g);obtain⟨n,e,hm⟩:=Zr5 g c1 k l false;exact start (Zid n 1) λ{h1 b K} a d=>rI (Zb a rfl) (Zi (decide_eq_false j) (rI (Zb a rfl) (rI (Zb a rfl) (Zi (by simpa using o) (rI (Zb a rfl) (rI (Zb a rfl) (rI (Zb a rfl) (rI (Zb a rfl) (hm λt v=>Za (Za (Za (d t v))))))))))))
theorem ZmJ(w:Wm)(at_ past:Int):∃(r e:Int) (w':Wm),∀{b:Nat} {h:Zf} {K:Int->Int->Zf->Prop},obj h b=some (wmO w)->(∀h',obj h' b=some (wmO w')->Upd (· = b) h h'->K r e h')->Y7 (some ⟨b,0,none⟩) at_ past K h:=by
  by_cases q:ZfP w at_ [past]=0
  case neg=>
    refine⟨0,ZfP w at_ [past],w,λ{b h K} d f=>?_⟩;unfold Y7 Zcz;exact Za (Za (ZH λh1 c1 c k=>ZlA (Zj d c) (l:=[past]) (show 1<=100 by decide) (Zje c1 rfl) (Za (Zn (by simpa using q) (Za (Za (f h1 (Zj d c) (c.upd _))))))))
  obtain⟨tk,g,m⟩:=ZEw w at_ past;obtain⟨r,n⟩:=ZDG (w.1,w.2.1,w.2.2.1,w.2.2.2.1,()) tk;refine⟨r,0,(w.1,w.2.1,w.2.2.1,w.2.2.2.1,tk,g,at_,()),λ{b h K} d f=>?_⟩;unfold Y7 Zcz;refine Za (Za (ZH λh1 c1 c k=>ZlA (Zj d c) (l:=[past]) (show 1<=100 by decide) (Zje c1 rfl) (Za (Zi (by rw[q];rfl) (m (Zj d c) λz i=>Zg (Zbs (Zj (Zj d c) i) (show 0+4<7 by decide) rfl λh3 o p z3=>Zg (Zbs o (show 0+5<7 by decide) rfl λA s t z4=>Zg (Zbs s (show 0+6<7 by decide) rfl λu v x z5=>?_))))))));have a:obj u b=some (wmO (w.1,w.2.1,w.2.2.1,w.2.2.2.1,tk,g,at_,())):=v;refine Zg (Zg (rI (Zb a rfl) (rI (Zb a rfl) (rI (Zb a rfl) (rI (Zb a rfl) (rI (Zb a rfl) (n _ _ λy j=>Za (Za (f y (Zj a j) ?_)))))))));exact((((c.trans i).upd _).trans p).trans (t.trans x)).trans (j.upd _)
theorem ZqM(w:Wm)(at_ past now n:Int):∃(ok:Bool) (e:Int) (w':Wm),∀{b:Nat} {h:Zf} {K:Bool->Int->Zf->Prop},obj h b=some (wmO w)->(∀h',obj h' b=some (wmO w')->Upd (· = b) h h'->K ok e h')->XQ (some ⟨b,0,none⟩) at_ past now n K h:=by
  have start:∀{b:Nat} {h:Zf} {K:Bool->Int->Zf->Prop},obj h b=some (wmO w)->(∀h3,obj h3 b=some (wmO w)->Ext h h3->Zl (ZfP w at_ [past,now]==1) (Zc (ZfP w at_ [past,now]) λt4=>K false t4 h3) (Zq (ZfP w at_ [past,now]==2) λt5=>Zl t5 (Zc (ZfP w at_ [past,now]) λt6=>K false t6 h3) (Zl (decide (n<1)) (Zc 2 λt7=>K false t7 h3) (
      Zq (decide (n>1099511627776)) λt8=>Zl t8 (Zc 2 λt9=>K false t9 h3) (Zq (ZfP w at_ [past,now] !=0) λt10=>Zl t10 (Zc (ZfP w at_ [past,now]) λt11=>K false t11 h3) (
       Y7 (some ⟨b,0,none⟩) at_ past (λt12 t13 m=>Zc t12 λr=>Zc t13 λx=>Zq (decide (now<=(IntKind.wrap .i64 (r- n)))) λt15=>Zc 0 λt16=>K t15 t16 m) h3))))))->XQ (some ⟨b,0,none⟩) at_ past now n K h:=λ{b h K} a t=>by
    unfold XQ ZeN;exact Za (ZH λh1 c1 o A=>ZlA (Zj a o) (l:=[past,now]) (show 2<=100 by decide) (ZBv (k:=2) (n:=1) c1 rfl (by decide)) (Za (t h1 (Zj a o) o)))
  have g:(ZfP w at_ [past,now]==1)=false:=by
    unfold ZfP;split
    ·rfl
    ·split
     ·rfl
     ·split
      ·rfl
      ·split<;>rfl
  by_cases q:ZfP w at_ [past,now]=2
  ·exact⟨false,ZfP w at_ [past,now],w,λ{b h K} a c=>start a λh3 d f=>Zi g (Zd (Zn (by simpa using q) (Za (c h3 d (f.upd _)))))⟩
  have i:(ZfP w at_ [past,now]==2)=false:=by simpa using q
  by_cases j:n<1
  ·exact⟨false,2,w,λ{b h K} a c=>start a λh3 d f=>Zi g (Zd (Zi i (Zn (decide_eq_true j) (Za (c h3 d (f.upd _))))))⟩
  by_cases p:n>1099511627776
  ·exact⟨false,2,w,λ{b h K} a c=>start a λh3 d f=>Zi g (Zd (Zi i (Zi (decide_eq_false j) (Zd (Zn (decide_eq_true p) (Za (c h3 d (f.upd _))))))))⟩
  by_cases s:ZfP w at_ [past,now]=0
  case neg=>exact⟨false,ZfP w at_ [past,now],w,λ{b h K} a c=>start a λh3 d f=>Zi g (Zd (Zi i (Zi (decide_eq_false j) (Zd (Zi (decide_eq_false p) (Zd (Zn (by simpa using s) (Za (c h3 d (f.upd _))))))))))⟩
  obtain⟨r,e,w',u⟩:=ZmJ w at_ past;exact⟨decide (now<=IntKind.wrap .i64 (r- n)),0,w',λ{b h K} a c=>start a λh3 d f=>Zi g (Zd (Zi i (Zi (decide_eq_false j) (Zd (Zi (decide_eq_false p) (Zd (Zi (by rw[s];rfl) (u d λv y z=>Za (Za (Zd (Za (c v y ((f.upd _).trans z)))))))))))))⟩
theorem ZBn{a c d:Zf}{x:Nat}(e:Ext a c)(u:Upd (· = x) c d)(b:sz a<=x):Ext a d:=e.then u λk f=>by subst f;exact b
theorem Zuv(w:Wm)(at_ past now n:Int):∃(ok:Bool) (e:Int),∀{b:Nat} {h:Zf} {K:Bool->Int->Zf->Prop},obj h b=some (wmO w)->(∀h',Ext h h'->K ok e h')->Zco (some ⟨b,0,none⟩) at_ past now n K h:=by obtain⟨ok,e,w',hT⟩:=ZqM w at_ past now n;refine⟨ok,e,λ{b h K} a c=>?_⟩;unfold Zco ZeP;exact Za (Zn7 a λh1 c1 d i=>hT c1 λf j g=>Zd (Za (c f (ZBn d g (Aqo _)))))
theorem Zuu(w:Wm)(at_ past:Int):∃(r e:Int),∀{b:Nat} {h:Zf} {K:Int->Int->Zf->Prop},obj h b=some (wmO w)->(∀h',Ext h h'->K r e h')->Zcn (some ⟨b,0,none⟩) at_ past K h:=by obtain⟨r,e,w',a⟩:=ZmJ w at_ past;refine⟨r,e,λ{b h K} c d=>?_⟩;unfold Zcn ZeO;exact Za (Za (Zn7 c λh1 c1 f j=>a c1 λg k i=>Za (Za (d g (ZBn f i (Aqo _))))))
def ZcY(n:Int)(h:1000000<=n/\n<=120000000):Wid:=⟨n,1,n,by rw[Int.tdiv_one];exact Yj (by omega) (by omega),by decide,by decide,by omega,h.2⟩
structure BkS where
  r:B7
  st:Int
  un:Int
  tr:Int
  la:Int
  w:Win
abbrev bkO(B:BkS)(wb:Nat):Obj:=.cells (b7L B.r++[.pointer (some ⟨wb,0,none⟩),.int .u8 B.st,iv B.un,iv B.tr,iv B.la]).toArray 204 (0,0)
def WOK(r:B7):Prop:=1000000<=r.2.2.2.2.2.1/\r.2.2.2.2.2.1<=120000000
structure BkR(h:Zf)(bb:Nat)(O:Nat->Prop)(B:BkS)(hw:WOK B.r):Prop where
  ex:∃wb mb,obj h bb=some (bkO B wb)/\Zj8 (ZcY _ hw) h wb mb B.w/\O bb/\O wb/\O mb
  last:B.w.last<=B.la
theorem BkR.congr{h h':Zf}{bb:Nat}{O:Nat->Prop}{B:BkS}{hw:WOK B.r}(k:BkR h bb O B hw)(he:∀j,O j->j<sz h->obj h' j=obj h j):BkR h' bb O B hw:=by obtain⟨⟨wb,mb,h1,a,b,c,d⟩,hl⟩:=k;exact⟨⟨wb,mb,(he _ b (Zp h1)).trans h1,a.congr (he _ c (Zp a.cells)) (he _ d a.mlt),b,c,d⟩,hl⟩
theorem BkR.mono{h:Zf}{bb:Nat}{O O':Nat->Prop}{B:BkS}{hw:WOK B.r}(k:BkR h bb O B hw)(he:∀j,O j->O' j):BkR h bb O' B hw:=by obtain⟨⟨wb,mb,h1,a,b,c,d⟩,hl⟩:=k;exact⟨⟨wb,mb,h1,a,he _ b,he _ c,he _ d⟩,hl⟩
section
variable{h:Zf}{bb wb:Nat}{B:BkS}
theorem Zl0(d:obj h bb=some (bkO B wb)){at_:Int}{K:Int->Zf->Prop}(a:K (ZO B.la at_) h):Y8 (some ⟨bb,0,none⟩) at_ K h:=by
  unfold Y8 Zcf;unfold ZO at a;refine Za (Zd (Zi rfl (Zo (λq=>Za ?_) λq=>Zd (Zo (λb=>Za ?_) λb=>Zg (rI (Zb d rfl) (Zd (Zo (λc=>Za ?_) λc=>Za ?_)))))))
  ·rw[if_pos q]at a;exact a
  ·rw[if_neg q,if_pos b]at a;exact a
  ·rw[if_neg q,if_neg b,if_pos c]at a;exact a
  ·rw[if_neg q,if_neg b,if_neg c]at a;exact a
def ZlZ(B:BkS)(at_:Int):Bool:=decide (B.st=1)||(decide (B.st=2)&&decide (B.un<=at_))
theorem Zpf(b:obj h bb=some (bkO B wb)){at_:Int}{K:Bool->Zf->Prop}(a:K (ZlZ B at_) h):Xk (some ⟨bb,0,none⟩) at_ K h:=by
  unfold Xk Zbr;unfold ZlZ at a;refine Zg (rI (Zb b rfl) (Z0 (λq=>?_) λq=>Zg (rI (Zb b rfl) (Z0 (λc=>Zg (rI (Zb b rfl) (Zd ?_))) λc=>?_))))
  ·rw[decide_eq_true q]at a;exact a
  ·rw[decide_eq_false q,decide_eq_true c]at a;exact a
  ·rw[decide_eq_false q,decide_eq_false c]at a;exact a
def Zua(B:BkS)(at_:Int):Bool:=if ZO B.la at_=0 then ZlZ B at_ else false
theorem Zv5(b:obj h bb=some (bkO B wb)){at_:Int}{K:Bool->Int->Zf->Prop}(a:∀e,K (Zua B at_) e h):ZaA (some ⟨bb,0,none⟩) at_ K h:=by
  unfold ZaA Zcg;unfold Zua at a;refine Za (Zl0 b (Za ?_))
  by_cases he:ZO B.la at_=0
  ·rw[he];rw[if_pos he]at a;exact Zi rfl (Zpf b (Zd (Za (a _))))
  ·rw[if_neg he]at a;exact Zn (by simpa using he) (Za (a _))
def BkS.enter(B:BkS)(at_:Int):BkS:=if ZO B.la at_=0 then {B with la:=at_,st:=if ZlZ B at_=true/\B.st=2 then 3 else B.st}else B
def Zpe(B:BkS)(at_:Int):Bool:=decide (ZO B.la at_=0)&&(ZlZ B at_&&decide (B.st=2))
theorem Ztw(f:obj h bb=some (bkO B wb)){at_:Int}{K:Bool->Bool->Int->Zf->Prop}
    (b:∀h' p e,obj h' bb=some (bkO (B.enter at_) wb)->Upd (· = bb) h h'->sz h'=sz h->K p (Zpe B at_) e h'):Zae (some ⟨bb,0,none⟩) at_ K h:=by
  unfold Zae ZbL;refine Za (Zl0 f (Za ?_));unfold Zpe BkS.enter at b
  by_cases he:ZO B.la at_=0
  case neg=>
    rw[if_neg he,decide_eq_false he]at b;exact Zn (by simpa using he) (Za (b h _ _ f (Upd.refl _ _) rfl))
  rw[if_pos he,decide_eq_true he,Aqa]at b;rw[he];refine Zi rfl (Zg (Zbs f (show 0+11<12 by decide) rfl λh1 c1 g i=>?_));have a:obj h1 bb=some (bkO {B with la:=at_} wb):=c1;refine Zpf a (Zd ?_);have j:ZlZ {B with la:=at_} at_=ZlZ B at_:=rfl;rw[j];refine⟨λq=>Zg (rI (Zb a rfl) (Z0 (λc=>Zg (Zbs a (show 0+8<12 by decide) rfl λk l m n=>Zd (Za ?_))) λc=>Zd (Za ?_))),λq=>Zd (Za ?_)⟩
  ·have:=b k (ZlZ B at_) 0 (by rw[if_pos ⟨q,c⟩];exact l) (g.trans m) (n.trans i);rw[show(ZlZ B at_&&decide (B.st=2))=true by rw[q,decide_eq_true (show B.st=2 from c)];rfl]at this;exact this
  ·have:=b h1 (ZlZ B at_) 0 (by rw[if_neg λd=>c d.2];exact a) g i;rw[show(ZlZ B at_&&decide (B.st=2))=false by rw[decide_eq_false (show ¬B.st=2 from c)];simp]at this;exact this
  ·have:=b h1 (ZlZ B at_) 0 (by rw[if_neg λd=>by rw[q]at d;cases d.1];exact a) g i;rw[show(ZlZ B at_&&decide (B.st=2))=false by rw[q];rfl]at this;exact this
def Zph(B:BkS)(rt:Int)(failed:Bool):Bool:=if B.r.2.1=0 then decide (rt>B.r.2.2.2.1)else failed
theorem ZxY(b:obj h bb=some (bkO B wb)){rt:Int}{failed:Bool}{K:Bool->Zf->Prop}(a:K (Zph B rt failed) h):Zad (some ⟨bb,0,none⟩) rt failed K h:=by
  unfold Zad ZbK;unfold Zph at a;refine Zg (rI (Zb b rfl) (Z0 (λq=>Zg (rI (Zb b rfl) (Zd ?_))) λq=>Zd ?_))
  ·rw[if_pos q]at a;exact a
  ·rw[if_neg q]at a;exact a
def BkS.opened(B:BkS)(at_:Int):BkS:={B with st:=2,un:=Zo2 (IntKind.wrap .i64 (at_+B.r.2.2.2.2.2.2.1)) 4611686018427387904,tr:=IntKind.wrap .i64 (B.tr+1)}
theorem Zpg(i:obj h bb=some (bkO B wb)){at_:Int}{K:Zf->Prop}(j:∀h',obj h' bb=some (bkO (B.opened at_) wb)->Upd (· = bb) h h'->K h'):Zaz (some ⟨bb,0,none⟩) at_ K h:=by unfold Zaz Zce;exact Zg (Zbs i (show 0+8<12 by decide) rfl λk a c l=>Zg (rI (Zb a rfl) (Zg (Zbs a (show 0+9<12 by decide) rfl λm b d n=>Zg (rI (Zb b rfl) (Zg (Zbs b (show 0+10<12 by decide) rfl λe f g o=>j e f ((c.trans d).trans g))))))))
end
theorem ZmG(B:BkS)(c:C6):∃b:Bool,∀ ⦃h:Zf⦄ ⦃bb wb:Nat⦄ ⦃K:Bool->Zf->Prop⦄,obj h bb=some (bkO B wb)->(∀h',Ext h h'->K b h')->YD (some ⟨bb,0,none⟩) c K h:=by
  obtain⟨a,t⟩:=ZqO 1000 c.2.2.2.1;obtain⟨d,hd⟩:=ZqO B.r.2.2.1 c.2.2.1
  by_cases k:c.2.2.1<B.r.2.2.2.2.1
  ·refine⟨false,λ⦃h bb wb K⦄ f i=>?_⟩;unfold YD Xm;exact ZH λh1 c1 g p=>rI (Zb c1 rfl) (Zg (rI (Zb (Zj f g) rfl) (Zd (Zn (decide_eq_true k) (i h1 g)))))
  by_cases q:B.r.2.1=2
  ·refine⟨decide (c.2.2.2.1>B.r.2.2.1),λ⦃h bb wb K⦄ f i=>?_⟩;unfold YD Xm;exact ZH λh1 c1 g p=>rI (Zb c1 rfl) (Zg (rI (Zb (Zj f g) rfl) (Zd (Zi (decide_eq_false k) (Zg (rI (Zb (Zj f g) rfl) (Zd (Zn (by simpa using q) (rI (Zb c1 rfl) (Zg (rI (Zb (Zj f g) rfl) (Zd (i h1 g)))))))))))))
  have start:∀(b:Bool),(∀{e:Zf} {bb wb b1:Nat} {K:Bool->Zf->Prop},obj e bb=some (bkO B wb)->obj e b1=some (.cells (c6L c).toArray 52 (0,0))->K b e->Zl (decide (a>d)) (K true e) (Ze (some ⟨bb,0,none⟩) λl m=>ldI e l (m+2) .i64 λt26=>Zl (t26==1000) (ldI e b1 (0+3) .i64 λt27=>ldI e b1 (0+2) .i64 λt28=>Zq (t27==t28) λt29=>K t29 e) (K false e)))->
      ∃b:Bool,∀ ⦃h:Zf⦄ ⦃bb wb:Nat⦄ ⦃K:Bool->Zf->Prop⦄,obj h bb=some (bkO B wb)->(∀h',Ext h h'->K b h')->YD (some ⟨bb,0,none⟩) c K h:=λb u=>⟨b,λ⦃h bb wb K⦄ f i=>by
    unfold YD Xm;refine ZH λh1 c1 g p=>rI (Zb c1 rfl) (Zg (rI (Zb (Zj f g) rfl) (Zd (Zi (decide_eq_false k) (Zg (rI (Zb (Zj f g) rfl) (Zd (Zi (by simpa using q) (Zg (rI (Zb c1 rfl) (rI (Zb (Zj f g) rfl) (rI (Zb c1 rfl) (t _ _ λv j=>⟨ZR (Zb (Zj c1 j) rfl),ZR (Zb (Zj (Zj f g) j) rfl),hd _ _ λh3 n=>?_⟩)))))))))))))
    exact u (Zj (Zj (Zj f g) j) n) (Zj (Zj c1 j) n) (i h3 ((g.trans j).trans n))⟩
  by_cases o:a>d
  ·exact start true λ{e bb wb b1 K} f c1 i=>Zn (decide_eq_true o) i
  by_cases s:B.r.2.2.1=1000
  ·exact start (c.2.2.2.1==c.2.2.1) λ{e bb wb b1 K} f c1 i=>Zi (decide_eq_false o) (Zg (rI (Zb f rfl) (Zn (by simpa using s) (rI (Zb c1 rfl) (rI (Zb c1 rfl) (Zd i))))))
  ·exact start false λ{e bb wb b1 K} f c1 i=>Zi (decide_eq_false o) (Zg (rI (Zb f rfl) (Zi (by simpa using s) i)))
def Zsk(bad:Bool):C6:=(0,0,1,(if bad=true then 1 else 0),0,0,())
theorem Rt.bad(bad:Bool):Rt (Zsk bad):=by
  cases bad
  ·exact⟨by decide,by decide,by decide,by decide,by decide,by decide,.inl (by decide)⟩
  ·exact⟨by decide,by decide,by decide,by decide,by decide,by decide,.inl (by decide)⟩
def Zjb(B:BkS)(at_ rt:Int)(a:Bool):Int:=
  if ZO B.la at_=2 then 2 else if ¬(0<=rt/\rt<=1152921504606846976)then 2 else if ZO B.la at_≠0 then ZO B.la at_ else if a=true/\B.st≠3 then 4 else 0
theorem ZuZ(a b:Int):(ZO a b==1)=false:=by
  unfold ZO;split
  ·rfl
  ·split
   ·rfl
   ·split<;>rfl
theorem Zs9{h:Zf}{a:Nat}{O:Nat->Prop}{B:BkS}{hw:WOK B.r}(k:BkR h a O B hw)(u:∀j,O j->j<sz h)(c:0<=B.la){K:Zf->Prop}(m:∀h' O',BkR h' a O' {B with w:=⟨0,λ_=>z6⟩} hw->Upd O h h'->Zsi O O' h h'->K h'):Y1 (some ⟨a,0,none⟩) K h:=by
  obtain⟨⟨wb,mb,d,f,g,v,x⟩,hl⟩:=k;unfold Y1 Zaf;have n:=Zp d;refine Zg (rI (Zb d rfl) (ZgV (k:=ZcY _ hw) (Int.tmod_one _) ⟨by have:=hw.1;show 1<=B.r.2.2.2.2.2.1;omega,by have:=hw.2;show B.r.2.2.2.2.2.1<=_;omega⟩ λh1 w1 i o=>Zg (Zbs (Zj d i) (show 0+7<12 by decide) rfl λl p e s=>?_)));have s1:sz h1=sz h+2:=o;have s2:sz l=sz h1:=s;refine m l (λj=>O j\/j=sz h\/j=sz h+1) ⟨⟨sz h+1,sz h,p,w1.congr (e.old _ (Zp w1.cells) (by show ¬sz h+1=a;omega)) (e.old _ w1.mlt (by show ¬sz h=a;omega)),.inl g,.inr (.inr rfl),.inr (.inl rfl)⟩,c⟩ ?_ ⟨λj b=>?_,λj b=>.inl b⟩
  ·exact(i.upd _).trans (e.mono λj _ b=>by have t:j=a:=b;subst t;exact g)
  ·rcases b with q|q|q
   ·exact .inl q
   ·exact .inr ⟨by omega,by omega⟩
   ·exact .inr ⟨by omega,by omega⟩
noncomputable def BkS.done(B:BkS)(hw:WOK B.r)(at_ rt:Int)(failed a:Bool):BkS:=
  if Zjb B at_ rt a≠0 then B else
  let b:BkS:={B with la:=at_}
  if a=true then(if Zph B rt failed=true then b.opened at_ else {b with st:=1,w:=⟨0,λ_=>z6⟩})
  else if B.st=1 then
    let w':=B.w.add (ZcY _ hw) at_ (Zsk (Zph B rt failed));let c:BkS:={b with w:=w'}
    if Classical.choose (ZmG c (w'.sum (ZcY _ hw) at_))=true then c.opened at_ else c
  else b
theorem Zuh(B:BkS)(hw:WOK B.r)(at_ rt:Int)(failed a:Bool):(B.done hw at_ rt failed a).r=B.r:=by
  unfold BkS.done BkS.opened;dsimp only;split
  ·rfl
  ·split
   ·split<;>rfl
   ·split
    ·split<;>rfl
    ·rfl
theorem Zv6{B:BkS}{hw:WOK B.r}{h:Zf}{m:Nat}{O:Nat->Prop}(k:BkR h m O B hw)(hO:∀j,O j->j<sz h){at_ rt:Int}{failed d:Bool}{K:Int->Zf->Prop}
    (C:∀h' O',BkR h' m O' (B.done hw at_ rt failed d) (by rw[Zuh];exact hw)->Upd O h h'->Zsi O O' h h'->K (Zjb B at_ rt d) h'):Xz (some ⟨m,0,none⟩) at_ rt failed d K h:=by
  obtain⟨⟨wb,mb,T,o,D,U,V⟩,hl⟩:=id k
  have no:∀e,e≠0->Zjb B at_ rt d=e->K e h:=λe h1 E=>by
    have:=C h O (by
      have e9:B.done hw at_ rt failed d=B:=by unfold BkS.done;rw[if_pos (by rw[E];exact h1)]
      simp only[e9];exact k) (Upd.refl _ _) ⟨λj i=>.inl i,λj i=>i⟩
    rwa[E]at this
  unfold Xz Zch;refine Za (ZkM (λ_ y=>y=h/\Zjb B at_ rt d=0) ?_ λQ F=>?_)
  rotate_left
  ·refine Zl0 T (Za (Zd (Zi (ZuZ _ _) (Z0 (λq=>Za (no 2 (by decide) (by unfold Zjb;rw[if_pos q]))) λq=>Zo (λG=>Za (no 2 (by decide) ?_)) λG=>Zd (Zo (λq3=>Za (no 2 (by decide) ?_)) λq3=>Zd (ZbG (λq4=>Za (no _ q4 ?_)) λq4=>⟨λq5=>Zg (rI (Zb T rfl) (Zd (ZbG (λq6=>Za (no 4 (by decide) ?_)) λq6=>?_))),λq5=>?_⟩))))))
   ·unfold Zjb;rw[if_neg q,if_pos (by omega)]
   ·unfold Zjb;rw[if_neg q,if_pos (by omega)]
   ·unfold Zjb;rw[if_neg q,if_neg (by omega),if_pos q4]
   ·unfold Zjb;rw[if_neg q,if_neg (by omega),if_neg (by omega),if_pos ⟨q5,q6⟩]
   ·exact F _ _ ⟨rfl,by unfold Zjb;rw[if_neg q,if_neg (by omega),if_neg (by omega),if_neg λl=>l.2 q6]⟩
   ·exact F _ _ ⟨rfl,by unfold Zjb;rw[if_neg q,if_neg (by omega),if_neg (by omega),if_neg λl=>by rw[q5]at l;cases l.1]⟩
  rintro _ y ⟨rfl,H⟩;rw[H]at C
  have ay:ZO B.la at_=0:=by
    unfold Zjb at H;split at H
    ·cases H
    ·split at H
     ·cases H
     ·split at H
      ·rename_i q;exact absurd H q
      ·rename_i q;simpa using q
  obtain⟨a0,a1,a2⟩:=Zeo ay
  have p:B.done hw at_ rt failed d=(if d=true then(if Zph B rt failed=true then BkS.opened {B with la:=at_} at_ else {B with la:=at_,st:=1,w:=⟨0,λ_=>z6⟩})
      else if B.st=1 then(if Classical.choose (ZmG {B with la:=at_,w:=B.w.add (ZcY _ hw) at_ (Zsk (Zph B rt failed))} ((B.w.add (ZcY _ hw) at_ (Zsk (Zph B rt failed))).sum (ZcY _ hw) at_))=true then BkS.opened {B with la:=at_,w:=B.w.add (ZcY _ hw) at_ (Zsk (Zph B rt failed))} at_ else {B with la:=at_,w:=B.w.add (ZcY _ hw) at_ (Zsk (Zph B rt failed))})else {B with la:=at_}):=by
    unfold BkS.done;rw[if_neg λl=>l H]
  refine Zg (Zbs T (show 0+11<12 by decide) rfl λh1 c1 u1 z1=>?_);have z:obj h1 m=some (bkO {B with la:=at_} wb):=c1;have s1:sz h1=sz y:=z1;have lw:=Zp o.cells;have lm:mb<sz y:=o.mlt;have lb:=Zp T
  have X:wb≠m:=λe=>by
    have Y:=o.cells;rw[e,T]at Y;simp[b7L]at Y
  have Z:mb≠m:=λe=>by
    obtain⟨f,n,⟨es,c,hq,_⟩,_⟩:=o.map;have Y:obj y mb=_:=hq;rw[e,T]at Y;cases Y
  have w1:Zj8 (ZcY _ hw) h1 wb mb B.w:=o.congr (u1.old wb lw X) (u1.old mb lm Z);have U1:Upd O y h1:=u1.mono λj _ i=>by have l:j=m:=i;subst l;exact D
  have k1:BkR h1 m O {B with la:=at_} hw:=⟨⟨wb,mb,z,w1,D,U,V⟩,Int.le_trans hl a2⟩;have aY:∀j,O j->j<sz h1:=λj i=>by have:=hO j i;omega
  have g1:∀{a:Zf} {O':Nat->Prop},Zsi O O' h1 a->Zsi O O' y a:=λ{a O'} g=>⟨λj i=>by
    rcases g.1 j i with q|q
    ·exact .inl q
    ·exact .inr (by omega),g.2⟩
  refine ZxY z (Zd ?_);have aB:Zph {B with la:=at_} rt failed=Zph B rt failed:=rfl;rw[aB]
  have fin:∀{B':BkS} {h':Zf} {O':Nat->Prop} (he:B.done hw at_ rt failed d=B') (aa:WOK B'.r),BkR h' m O' B' aa->Upd O y h'->Zsi O O' y h'->K 0 h':=λ{B' h' O'} he aa aC u g=>by
    subst he;exact C h' O' aC u g
  cases d with
  | true=>
    rw[if_pos rfl]at p;refine ZkM (λ(s:Bool×Unit) t=>s=(Zph B rt failed,())/\t=h1) ?_ λQ F=>Yz (Zd (F _ _ ⟨rfl,rfl⟩));rintro _ t ⟨rfl,N⟩;subst N;dsimp only;refine⟨λq=>Zpg z λE c2 P=>Za ?_,λq=>Zd (Yz (Zg (Zbs z (show 0+8<12 by decide) rfl λE c2 P z2=>?_)))⟩
    ·rw[if_pos q]at p;have U2:Upd O y E:=U1.trans (P.mono λj _ i=>by have l:j=m:=i;subst l;exact D);exact fin p hw ⟨⟨wb,mb,c2,w1.congr (P.old wb (by show wb<sz t;omega) X) (P.old mb (by show mb<sz t;omega) Z),D,U,V⟩,Int.le_trans hl a2⟩ U2 ⟨λj i=>.inl i,λj i=>i⟩
    ·rw [if_neg (by rw[q];decide)]at p;have s2:sz E=sz t:=z2;have U2:Upd O y E:=U1.trans (P.mono λj _ i=>by have l:j=m:=i;subst l;exact D);have k2:BkR E m O {B with la:=at_,st:=1} hw:=⟨⟨wb,mb,c2,w1.congr (P.old wb (by show wb<sz t;omega) X) (P.old mb (by show mb<sz t;omega) Z),D,U,V⟩,Int.le_trans hl a2⟩;refine Zs9 k2 (λj i=>by have:=hO j i;omega) a0 λh3 O3 k3 u3 g3=>Za (fin p hw k3 (U2.trans u3) ⟨λj i=>?_,g3.2⟩)
     rcases g3.1 j i with q|q
     ·exact .inl q
     ·exact .inr (by omega)
  | false=>
    rw[if_neg (by decide)]at p;refine ZkM (λ(s:Bool×Unit) t=>s=(false,())/\t=h1) ?_ λQ F=>Zt (F _ _ ⟨rfl,rfl⟩);rintro _ t ⟨rfl,N⟩;subst N;dsimp only;refine Zt (Zd (Zt (Zg (rI (Zb z rfl) (Zd (Z0 (λq=>?_) λq=>Za ?_))))))
    ·have q':B.st=1:=q;rw[if_pos q']at p;refine ZH λE c2 e2 z2=>Zaw c2 λh3 c3 u3 z3=>ZkM (λ_ hz=>Ext t hz/\obj hz (sz t)=some (.cells (c6L (Zsk (Zph B rt failed))).toArray 52 (0,0))) ?_ λQ F=>?_
     rotate_left
     ·have e3:Ext t h3:=e2.then u3 λk C=>by subst C;exact Aqo _
      refine⟨λG=>Zbs c3 (show 0+3<6 by decide) rfl λh4 L u4 z4=>F _ _ ⟨e3.then u4 λk C=>by subst C;exact Aqo _,?_⟩,λG=>F _ _ ⟨e3,?_⟩⟩
      ·unfold Zsk;rw[if_pos G];exact L
      ·unfold Zsk;rw[if_neg (by rw[G];decide)];exact c3
     rintro _ h4 ⟨A,L⟩;have I:=Zj z A;have w4:Zj8 (ZcY _ hw) h4 wb mb B.w:=w1.congr (ZB A (by omega)) (ZB A (by omega));refine Zg (rP (Zb I rfl) (rI (Zb L rfl) (rI (Zb L rfl) (rI (Zb L rfl) (rI (Zb L rfl) (rI (Zb L rfl) (rI (Zb L rfl) (ZH λh5 c5 e5 z5=>⟨ZR (Zb (Zj I e5) rfl),?_⟩))))))));have R:=A.trans e5;have w5:Zj8 (ZcY _ hw) h5 wb mb B.w:=w1.congr (ZB R (by omega)) (ZB R (by omega));have bk:sz t<=sz h4:=A.size;have aG:ZO B.w.last at_=0:=by unfold ZO;rw[if_neg (by omega),if_neg (by omega),if_neg (by omega)]
     refine Zls w5 (x:=Zsk (Zph B rt failed)) (Rt.bad _) (Zje c5 rfl) (λb hb=>?_) λh6 w6 u6=>?_
     ·have l:h4.size=b:=by simpa[Sl.blk]using hb
      have:sz h4=b:=l;omega
     rw[if_pos aG]at w6;have ah:obj h6 m=some (bkO {B with la:=at_} wb):=(u6.old m (Zp (Zj I e5)) (by show ¬(m=wb\/m=mb);exact λl=>l.elim (Ne.symm X) (Ne.symm Z))).trans (Zj I e5);have ai:ZO (Win.add (ZcY _ hw) B.w at_ (Zsk (Zph B rt failed))).last at_=0:=by show ZO at_ at_=0;unfold ZO;rw[if_neg (by omega),if_neg (by omega),if_neg (by omega)]
     refine Zg (rP (Zb ah rfl) (ZqP w6 λh7 e7=>ZH λh8 c8 e8 z8=>?_));rw[if_pos ai];refine Zaw c8 λl W u9 z9=>Za (rI (Zb W rfl) (rI (Zb W rfl) (rI (Zb W rfl) (rI (Zb W rfl) (rI (Zb W rfl) (rI (Zb W rfl) ?_))))));have aj:Ext h6 l:=(e7.trans e8).then u9 λk C=>by subst C;exact e7.size
     have ak:obj l m=some (bkO {B with la:=at_,w:=B.w.add (ZcY _ hw) at_ (Zsk (Zph B rt failed))} wb):=Zj ah aj;have al:=Classical.choose_spec (ZmG {B with la:=at_,w:=B.w.add (ZcY _ hw) at_ (Zsk (Zph B rt failed))} ((B.w.add (ZcY _ hw) at_ (Zsk (Zph B rt failed))).sum (ZcY _ hw) at_));generalize Classical.choose (ZmG {B with la:=at_,w:=B.w.add (ZcY _ hw) at_ (Zsk (Zph B rt failed))} ((B.w.add (ZcY _ hw) at_ (Zsk (Zph B rt failed))).sum (ZcY _ hw) at_))=ov at al p
     have U6:Upd O y h6:=(U1.trans (R.upd _)).trans (u6.mono λj _ i=>by
       rcases i with i|i
       ·subst i;exact U
       ·subst i;exact V)
     refine al ak λbp an=>?_;have v:=aj.trans an;have J:=w6.congr (ZB v (Zp w6.cells)) (ZB v w6.mlt);have M:=Zj ak an;have ao:=Zp J.cells;have aq:=J.mlt;refine⟨λG=>Zpg M λaI aJ S=>Za ?_,λG=>Za ?_⟩
     ·rw[if_pos G]at p;have aK:Upd O y aI:=(U6.trans (v.upd _)).trans (S.mono λj _ i=>by have l:j=m:=i;subst l;exact D);exact fin p hw ⟨⟨wb,mb,aJ,J.congr (S.old wb ao X) (S.old mb aq Z),D,U,V⟩,Int.le_refl _⟩ aK ⟨λj i=>.inl i,λj i=>i⟩
     ·rw[if_neg (by rw[G];decide)]at p;exact fin p hw ⟨⟨wb,mb,M,J,D,U,V⟩,Int.le_refl _⟩ (U6.trans (v.upd _)) ⟨λj i=>.inl i,λj i=>i⟩
    ·have q':¬B.st=1:=q;rw[if_neg q']at p;exact fin p hw k1 U1 ⟨λj i=>.inl i,λj i=>i⟩
theorem ZyL{h:Zf}{r:B7}(hw:WOK r)(p:∀(h:Zf) (K:Int->Zf->Prop),(∀h',Ext h h'->K 0 h')->Zc8 r K h){K:Option Addr->Int->Zf->Prop}
    (c:∀h' g O',BkR h' g O' ⟨r,1,0,0,0,⟨0,λ_=>z6⟩⟩ hw->Ext h h'->(∀j,O' j->sz h<=j/\j<sz h')->K (some ⟨g,0,none⟩) 0 h'):ZeH r K h:=by
  unfold ZeH ZiU;refine ZH λh1 c1 i v=>Za (rS (Zb c1 rfl) (rI (Zb c1 rfl) (rI (Zb c1 rfl) (rI (Zb c1 rfl) (rI (Zb c1 rfl) (rI (Zb c1 rfl) (rI (Zb c1 rfl) ?_)))))));refine p _ _ λb d=>Za (Zi rfl ?_);have a:=Zj c1 d;refine rS (Zb a rfl) (rI (Zb a rfl) (rI (Zb a rfl) (rI (Zb a rfl) (rI (Zb a rfl) (rI (Zb a rfl) (rI (Zb a rfl) (ZH λh3 l q z3=>?_)))))));have s:sz h<=sz b:=(i.trans d).size;unfold Y1 Zaf;have w:sz h3=sz b+1:=z3;refine Zg (rI (Zb l rfl) (ZgV (k:=ZcY _ hw) (Int.tmod_one _) ⟨by have:=hw.1;show 1<=r.2.2.2.2.2.1;omega,by have:=hw.2;show r.2.2.2.2.2.1<=_;omega⟩ λm e n z4=>Zg (Zbs (Zj l n) (show 0+7<12 by decide) rfl λo t f z5=>Za ?_)));have u:sz m=sz h3+2:=z4;have x:sz o=sz m:=z5;refine c o (sz b) (λj=>j=sz b\/j=sz h3\/j=sz h3+1) ⟨⟨sz h3+1,sz h3,t,e.congr ?_ ?_,.inl rfl,.inr (.inr rfl),.inr (.inl rfl)⟩,Int.le_refl _⟩ ?_ λj y=>by omega
  ·exact f.old _ (Zp e.cells) (by show ¬sz h3+1=sz b;omega)
  ·exact f.old _ e.mlt (by show ¬sz h3=sz b;omega)
  ·exact(((i.trans d).trans q).trans n).then f λk c=>by subst c;exact s
end Go.Proofs.YtonbfpnngkemiaaGreat
