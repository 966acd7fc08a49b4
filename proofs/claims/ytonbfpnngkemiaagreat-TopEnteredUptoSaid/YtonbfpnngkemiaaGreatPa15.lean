/- A call is over: the tree's Done. -/
import Derived.Test.YtonbfpnngkemiaaGreatPa14
set_option linter.unusedVariables false
set_option linter.unusedSimpArgs false
namespace Go.Proofs.YtonbfpnngkemiaaGreat
open Go Go.Fw
open Nat renaming reduceAdd->Nqa,reduceLT->Nqb,reduceLeDiff->Nqc,reduceEqDiff->Nqd,reduceMul->Nqe
def Tree.idle(t:Tree)(k:K4):Bool:=match t.f k with
  |some n=>n.fl==0
  |none=>true
theorem ZvA{h:Zf}{tb d:Nat}{O:Nat->Prop}{t:Tree}{T:TypeId}(g:Zak h tb O t)(f:obj h d=some (.cells [.pointer (some ⟨tb,0,none⟩)].toArray T (0,0))){k:K4}{K:Bool->Zf->Prop}(i:∀h',Ext h h'->K (t.idle k) h'):Zcr k (some ⟨d,0,none⟩) K h:=by
  unfold Zcr ZeV;refine ZH λh1 c1 c m=>Zg (rP (Zb (Zj f c) rfl) (Zg ?_));obtain⟨mb,j,b⟩:=(g.ext c).look k;have hd:Zm h1 [(d,0,.pointer (some ⟨tb,0,none⟩))]:=ZR (Zb (Zj f c) rfl);have a:=i h1 c;unfold Tree.idle at a;refine rM j (rI (Zb c1 rfl) (rS (Zb c1 rfl) (rS (Zb c1 rfl) (rS (Zb c1 rfl) ?_))))
  rcases b with⟨e,b⟩ |⟨q,n,e,l,_,b,_⟩
  ·rw[e]at a;exact b _ ⟨none,rfl,hd,ZjS ⟨hd,Zd a⟩⟩
  ·rw[e]at a;exact b _ ⟨_,rfl,hd,ZkS l ⟨hd,Zd a⟩⟩
theorem ZxT{h:Zf}{tb v:Nat}{O:Nat->Prop}{t:Tree}{T:TypeId}(y:Zak h tb O t)(z:obj h v=some (.cells [.pointer (some ⟨tb,0,none⟩)].toArray T (0,0))){s:Sl}{l:List K4}(hs:Row h s 4 (l.flatMap k4L))(hl:l.length<=100000)
    {K:Bool->Zf->Prop} (e:∀h',Ext h h'->K (l.any t.idle) h'):ZD s (some ⟨v,0,none⟩,()) K h:=by
  unfold ZD ZW Z8 Ye;have hlen:=hs.len;rw[YM ZbF]at hlen;have A:s.len=l.length:=(Ayd (by decide) hlen).symm;refine Za (ZaE (λp w=>∃i:Nat,p=((i:Int),())/\i<=l.length/\Ext h w/\(l.take i).any t.idle=false) (λp _=>l.length- p.1.toNat) ⟨0,rfl,Aye _,Ext.refl _,rfl⟩ ?_);rintro _ w ⟨i,rfl,B,he,j⟩ Q C;dsimp only;refine Zo (λq=>?_) λq=>?_
  ·have a:i<l.length:=by omega
   have f:l[i]?=some l[i]:=Axy a;generalize l[i]=k at f;obtain⟨b,o,D,E,d,g⟩:=Za5 ZbF (hs.ext he) f (by decide);have v0:=g 0 _ rfl;have v1:=g 1 _ rfl;have v2:=g 2 _ rfl;have v3:=g 3 _ rfl;have m:IntKind.wrap .i64 ((i:Int)+1)=((i+1:Nat):Int):=wrS a (by omega);have n:l.take (i+1)=l.take i++[k]:=by rw[Ayk,f];rfl
   refine Za (d rfl (rI v0 (rS v1 (rS v2 (rS v3 (ZvA (y.ext he) (Zj z he) λh1 x=>⟨λr=>?_,λr=>?_⟩))))))
   ·have:l.any t.idle=true:=List.any_eq_true.2 ⟨k,Axo f,r⟩
    rw[this]at e;refine Za (Zd ?_);have:decide ((i:Int)>=0)=true:=by simp
    rw[this];exact e _ (he.trans x)
   ·rw[m];refine C _ _ ⟨i+1,rfl,a,he.trans x,?_⟩ (by show l.length- ((i+1:Nat):Int).toNat<l.length- ((i:Nat):Int).toNat;omega);have u:t.idle k=false:=r;rw[n,List.any_append,j];simp[u]
  ·have c:l.take i=l:=Awd (by omega);rw[c]at j;rw[j]at e;exact Za (Zd (e _ he))
def Tree.ons(g:Node->Node):List K4->Tree->Tree
  |[],t=>t
  |k::l,t=>Tree.ons g l (t.on k g)
def Tree.doneE(t:Tree)(c:C8)(rt:Int):Int:=
  if ZgZ c≠0 then ZgZ c else if ¬(0<=c.1/\c.1<=1152921504606846976)then 2 else if ¬(0<=rt/\rt<=1152921504606846976)then 2 else if c.1<t.last then 7 else if(ZI c).any t.idle=true then 4 else 0
def Tree.dones(t:Tree)(c:C8)(rt:Int)(f:Bool):Tree:=if t.doneE c rt=0 then(let t':=Tree.ons (λn=>n.done c.1 rt f) (ZI c) t;⟨t'.f,t'.keys,c.1⟩)else t
theorem ZvX{h:Zf}{tb:Nat}{O:Nat->Prop}{t:Tree}(ht:Zak h tb O t)(hO:∀j,O j->j<sz h){c:C8}(hz:Zic c){rt:Int}{f:Bool}{K:Int->Zf->Prop}
    (B:∀h',Zak h' tb O (t.dones c rt f)->Upd O h h'->K (t.doneE c rt) h'):ZdN (some ⟨tb,0,none⟩) c rt f K h:=by
  have no:∀e (a:Zf),Ext h a->e≠0->t.doneE c rt=e->K e a:=λe a e9 h1 h2=>by
    have:=B a (by unfold Tree.dones;rw[if_neg (by rw[h2];exact h1)];exact ht.ext e9) (e9.upd _);rwa[h2]at this
  unfold ZdN Zga;refine ZH λh1 c1 e1 z1=>ZH λh3 v e3 z3=>Za ?_;have p3:=Zj c1 e3;refine rP (Zb p3 rfl) (Zt (rI (Zb v rfl) (rS (Zb v rfl) (rS (Zb v rfl) (rS (Zb v rfl) (rB (Zb v rfl) (rI (Zb v rfl) (rL (Zb v rfl) ?_))))))));refine Zlr (c:=c) hz λs l C D=>Za (Zd (ZbG (λm=>Za ?_) λm=>?_))
  ·exact no _ l ((e1.trans e3).trans C) m (by unfold Tree.doneE;rw[if_pos m])
  rw[if_pos m]at D;have d:Ext h l:=(e1.trans e3).trans C;have c4:=Zj v C;have p4:=Zj p3 C;have t4:=ht.ext d;refine rI (Zb c4 rfl) (ZjV ?_)
  by_cases E:0<=c.1/\c.1<=1152921504606846976
  case neg=>
    have:inB c.1 0 1152921504606846976=false:=by unfold inB;simp;omega
    rw[this];exact Yz (Za (no 2 l d (by decide) (by unfold Tree.doneE;rw[if_neg (λa=>a m),if_pos E])))
  have:inB c.1 0 1152921504606846976=true:=by unfold inB;simp;omega
  rw[this];refine Zt (ZjV ?_)
  by_cases W:0<=rt/\rt<=1152921504606846976
  case neg=>
    have:inB rt 0 1152921504606846976=false:=by unfold inB;simp;omega
    rw[this];exact Zd (Yz (Za (no 2 l d (by decide) (by unfold Tree.doneE;rw[if_neg (λa=>a m),if_neg (λa=>a E),if_pos W]))))
  have:inB rt 0 1152921504606846976=true:=by unfold inB;simp;omega
  rw[this];refine Zd (Zt (rI (Zb c4 rfl) (rP (Zb p4 rfl) (Zg (rI t4.last (Zd (Zo (λX=>Za (no 7 l d (by decide) ?_)) λX=>?_)))))))
  ·unfold Tree.doneE;rw[if_neg (λa=>a m),if_neg (λa=>a E),if_neg (λa=>a W),if_pos X]
  have aK:=ZmD c;refine ZxT t4 p4 D.row (by omega) λF x=>Zd ⟨λhi=>Za (no 4 F (d.trans x) (by decide) ?_),λhi=>?_⟩
  ·unfold Tree.doneE;rw[if_neg (λa=>a m),if_neg (λa=>a E),if_neg (λa=>a W),if_neg X,if_pos hi]
  have hE:t.doneE c rt=0:=by unfold Tree.doneE;rw[if_neg (λa=>a m),if_neg (λa=>a E),if_neg (λa=>a W),if_neg X,if_neg (by rw[hi];decide)]
  have hN:t.dones c rt f=⟨(Tree.ons (λn=>n.done c.1 rt f) (ZI c) t).f,(Tree.ons (λn=>n.done c.1 rt f) (ZI c) t).keys,c.1⟩:=by unfold Tree.dones;rw[if_pos hE]
  rw[hE,hN]at B;have hlen:=D.row.len;rw[YM ZbF]at hlen;have aM:s.len=(ZI c).length:=(Ayd (by decide) hlen).symm;have ai:=d.trans x;have w1:sz h1=sz h+1:=z1;have w3:sz h3=sz h1+1:=z3;have w4:sz h3<=sz l:=C.size;have aN:sz l<=sz F:=x.size;have rows:∀b,s.blk=some b->sz h<=b/\b<sz l:=λb hb=>by have:sz h3<=b/\b<sz l:=D.lt hb;omega
  have G:∀k∈ZI c,t.isNew k=false:=λk ak=>by
    have:=List.any_eq_false.1 hi k ak;unfold Tree.idle at this;unfold Tree.isNew
    cases hf:t.f k with
    |none=>rw[hf]at this;exact absurd rfl this
    |some n=>rfl
  refine ZaE (λp r=>∃(i:Nat) (H:List K4) (t2:Tree),p=((i:Int),())/\i<=(ZI c).length/\(ZI c).drop i=H/\Tree.ons (λn=>n.done c.1 rt f) H t2=Tree.ons (λn=>n.done c.1 rt f) (ZI c) t/\Zak r tb O t2/\(∀k∈ZI c,t2.isNew k=false)/\Upd O F r)
    (λp _=>(ZI c).length- p.1.toNat) ⟨0,_,t,rfl,Aye _,rfl,rfl,t4.ext x,G,Upd.refl _ _⟩ ?_
  rintro _ r ⟨i,H,t2,rfl,aP,I,J,L,w,hu⟩ Q hQ;have Y:∀j,sz h<=j->¬O j:=λj M a=>by have:=hO j a;omega
  have old:∀{j:Nat} {y:Obj},obj F j=some y->¬O j->obj r j=some y:=λ{j y} M hn=>(hu.old j (Zp M) hn).trans M;have p6:obj r (sz h)=_:=old (Zj p4 x) (Y _ (Aqo _));have c6:obj r (sz h1)=_:=old (Zj c4 x) (Y _ (by omega));have w6:sz F<=sz r:=hu.size;dsimp only;refine Zo (λq=>?_) λq=>?_
  ·have g:i<(ZI c).length:=by omega
   have hg:(ZI c)[i]?=some (ZI c)[i]:=Axy g;have N:H=(ZI c)[i]::(ZI c).drop (i+1):=by rw[<-I];exact Aym g
   have P:=Ayx g;generalize (ZI c)[i]=k at hg N P;subst N;have R:Row r s 4 ((ZI c).flatMap k4L):=(D.row.ext x).congr λb o hb _ hl=>hu.old b hl (Y _ (rows b (by simp[Sl.blk,hb])).1);obtain⟨b,o,aS,aT,S,u⟩:=Za5 ZbF R hg (by decide);have v0:=u 0 _ rfl;have v1:=u 1 _ rfl;have v2:=u 2 _ rfl;have v3:=u 3 _ rfl;have al:IntKind.wrap .i64 ((i:Int)+1)=((i+1:Nat):Int):=wrS g (by omega);refine S rfl (rI v0 (rS v1 (rS v2 (rS v3 (ZH λh7 c7 e7 z7=>Zaw c7 λh8 Z u8 z8=>?_)))));have e8:Ext r h8:=e7.then u8 λk B=>by subst B;exact Aqo _
   have p8:=Zj p6 e8;have d8:=Zj c6 e8;have t8:=L.ext e8;obtain⟨mb,an,ao⟩:=t8.look k;refine rP (Zb p8 rfl) (Zg (rM an (rI (Zb Z rfl) (rS (Zb Z rfl) (rS (Zb Z rfl) (rS (Zb Z rfl) (rI (Zb d8 rfl) ?_)))))))
   rcases ao with⟨z,_⟩ |⟨q9,n9,z,aq,T,ar,U⟩
   ·have:=w k P;unfold Tree.isNew at this;rw[z]at this;cases this
   refine ar _ ⟨_,rfl,ZR (Zb d8 rfl),ZR (Zb p8 rfl),Zv4 aq λV n10 A=>?_⟩;have t10:=U V _ n10 A;have au:obj V (sz h)=_:=(A.old (sz h) (Zp p8) (λav=>Y _ (Aqo _) (T _ av).1)).trans p8;refine⟨ZR (Zb au rfl),?_⟩;rw[al];have aw:t2.on k (λn=>n.done c.1 rt f)=t2.put k (n9.done c.1 rt f):=by unfold Tree.on;rw[z]
   refine hQ _ _ ⟨i+1,(ZI c).drop (i+1),t2.on k (λn=>n.done c.1 rt f),rfl,g,rfl,J,by rw[aw];exact t10,λj M=>(ZBz _ _ _ _).trans (w j M),?_⟩ (by show(ZI c).length- ((i+1:Nat):Int).toNat<(ZI c).length- ((i:Nat):Int).toNat;omega);exact(hu.trans (e8.upd O)).trans (A.mono λj _ hq=>(T j hq).1)
  ·have ax:H=[]:=by rw[<-I];exact Ayo (by omega)
   subst ax;refine rP (Zb p6 rfl) (rI (Zb c6 rfl) (Zg (L.setLast λh7 t7 u7=>Za (B h7 ?_ ?_))))
   ·rw[<-J];exact t7
   ·exact((ai.upd O).trans hu).trans u7
end Go.Proofs.YtonbfpnngkemiaaGreat
namespace Go.Proofs.YtonbfpnngkemiaaGreat
open Go Go.Fw Go.Js
abbrev nl:Sl:=⟨none,0,0⟩
abbrev bkL(a:Nat)(g:Int):List Value:=[.pointer (some ⟨a,0,none⟩),iv g]
def Tree.zero:Tree:=⟨λ_=>none,[],0⟩
inductive Tg
  |ro
  |p (b:Nat)
abbrev TgM:=Nat->Option Tg
def Zdi(T T':TgM):Prop:=∀j,T j≠none->T' j=T j
theorem Zdi.refl(T:TgM):Zdi T T:=λ_ _=>rfl
theorem Zdi.trans{T T' T'':TgM}(a:Zdi T T')(b:Zdi T' T''):Zdi T T'':=λj c=>by
  have e:=a j c;exact(b j (by rw[e];exact c)).trans e
theorem Zdi.to{T T':TgM}(s:Zdi T T'){j:Nat}{t:Tg}(h:T j=some t):T' j=some t:=(s j (by rw[h];exact λe=>by cases e)).trans h
def ZhZ(T:TgM)(t:Tg)(lo hi:Nat):TgM:=λj=>if lo<=j/\j<hi then some t else T j
theorem Zil{T:TgM}{t:Tg}{lo hi j:Nat}(h:lo<=j/\j<hi):ZhZ T t lo hi j=some t:=if_pos h
theorem Zgt{T:TgM}{t:Tg}{lo hi:Nat}(hT:∀j,T j≠none->j<lo):Zdi T (ZhZ T t lo hi):=λj a=>if_neg λh=>by have:=hT j a;omega
theorem ZmV{T:TgM}{t:Tg}{lo hi n:Nat}(hT:∀j,T j≠none->j<n)(b:hi<=n):∀j,ZhZ T t lo hi j≠none->j<n:=λj a=>by
  unfold ZhZ at a;split at a
  ·omega
  ·exact hT j a
theorem ZbX{T:TgM}{n:Nat}(hT:∀j,T j≠none->j<n){j:Nat}{t:Tg}(h:T j=some t):j<n:=hT j (by rw[h];exact λe=>by cases e)
def Zde(D:Nat->Prop)(T:TgM)(h h':Zf):Prop:=∀j t,T j=some t->(∀d,D d->t≠ .p d)->obj h' j=obj h j
theorem Zde.of{D:Nat->Prop}{T:TgM}{h h':Zf}(hT:∀j,T j≠none->j<sz h)(u:Upd (λj=>∃d,D d/\T j=some (.p d)) h h'):Zde D T h h':=λj t c hd=>
  u.old j (ZbX hT c) λ⟨d,b,a⟩=>hd d b (by rw[c]at a;exact Option.some.inj a)
abbrev hdT(T:TgM):Nat->Prop:=λj=>T j=some (.p j)
abbrev inT(T:TgM)(b:Nat):Nat->Prop:=λj=>T j=some (.p b)
abbrev roT(T:TgM):Nat->Prop:=λj=>T j=some .ro
abbrev ShP:=Option Addr×Option Addr
def Ztl:Option Addr->List Nat
  |none=>[]
  |some a=>[a.block]
def hdP(p:ShP):List Nat:=Ztl p.1++Ztl p.2
def shL(p:ShP):List Value:=[.pointer p.1,.pointer p.2]
abbrev BkW:={B:BkS // WOK B.r} ×Int
def BrP(h:Zf)(T:TgM)(b:Nat)(B:BkW):Prop:=BkR h b (inT T b) B.1.1 B.1.2
def HoP(h:Zf)(T:TgM)(b:Nat)(H:HtS):Prop:=∃a,HtR h b a H/\∀j,a j≠none->T j=some (.p b)
structure Ent where
  c:C8
  ov:Bool
  pr:List Int
def ZOq(c:C8)(ov:Bool)(s:Sl):Value:=.agg #[iv c.1,.string c.2.1,.string c.2.2.1,.string c.2.2.2.1,.bool c.2.2.2.2.1,iv c.2.2.2.2.2.1,slV nl,.bool ov,slV s]
structure EnI(h:Zf)(T:TgM)(fm:Nat)(en:Int->Option Ent)(f:Int->Option Value)(n:Nat):Prop where
  m:Zlv h fm f n
  e:∀k,(en k=none/\f k=none)\/∃e s,en k=some e/\f k=some (ZOq e.c e.ov s)/\Row h s 1 (e.pr.map iv)/\Rw.inS (roT T) s
def EnR(h:Zf)(T:TgM)(fm:Nat)(en:Int->Option Ent):Prop:=∃f n,EnI h T fm en f n
section
variable{D:Nat->Prop}{T T':TgM}{h h':Zf}
theorem Zde.head{b:Nat}(u:Zde D T h h')(a:¬D b){j:Nat}(h1:T j=some (.p b)):obj h' j=obj h j:=u j _ h1 λd hd e=>by cases e;exact a hd
theorem Zde.ro(u:Zde D T h h'){j:Nat}(h1:T j=some .ro):obj h' j=obj h j:=u j _ h1 λd hd e=>by cases e
theorem ZmW(u:Zde D T h h')(s:Zdi T T'){p:ShP}{x:ShS}(d:ShR h (hdT T) p x)(hd:∀b,b∈hdP p->¬D b):ShR h' (hdT T') p x:=by
  obtain⟨g,i⟩:=p;refine⟨?_,?_⟩
  ·cases a:x.1 with
   |none=>have:=d.1;rw[a]at this;exact this
   | some y=>
     have:=d.1;rw[a]at this;obtain⟨b,e,c,o⟩:=this;have f:g=some ⟨b,0,none⟩:=e;exact⟨b,e,(u.head (hd b (by unfold hdP Ztl;rw[f];simp)) o).trans c,s.to o⟩
  ·cases a:x.2 with
   |none=>have:=d.2;rw[a]at this;exact this
   | some y=>
     have:=d.2;rw[a]at this;obtain⟨b,e,c,o⟩:=this;have f:i=some ⟨b,0,none⟩:=e;exact⟨b,e,(u.head (hd b (by unfold hdP Ztl;rw[f];simp)) o).trans c,s.to o⟩
theorem Zn0(u:Zde D T h h')(s:Zdi T T'){b:Nat}{B:BkW}(c:BrP h T b B)(hd:¬D b):BrP h' T' b B:=
  (BkR.congr c λj a _=>u.head hd a).mono λj a=>s.to a
theorem ZnE(u:Zde D T h h')(s:Zdi T T')(hz:sz h<=sz h'){b:Nat}{H:HtS}(d:HoP h T b H)(hd:¬D b):HoP h' T' b H:=by obtain⟨e,⟨g,S,i,kb,f,n,wt,sl,lb,hm⟩,c⟩:=d;exact⟨e,⟨g,S,i,kb,f,n,wt,sl,lb,hm.congr (λj a=>u.head hd (c j a)) hz⟩,λj a=>s.to (c j a)⟩
theorem Zkq(u:Zde D T h h')(s:Zdi T T'){x:Sl}{n:Nat}{vs:List Value}(r:Row h x n vs)(c:Rw.inS (roT T) x):Row h' x n vs/\Rw.inS (roT T') x:=
  ⟨Rw.Zhn r c λb a _=>u.ro a,c.mono λb a=>s.to a⟩
theorem ZkL(u:Zde D T h h')(s:Zdi T T'){fm:Nat}{en:Int->Option Ent}(c:EnR h T fm en)(d:T fm=some (.p fm))(hd:¬D fm):EnR h' T' fm en:=by
  obtain⟨f,n,hm,he⟩:=c;refine⟨f,n,hm.congr (u.head hd d),λk=>?_⟩
  rcases he k with h1|⟨e,sl,h1,g,h3,i⟩
  ·exact .inl h1
  ·obtain⟨a,b⟩:=Zkq u s h3 i;exact .inr ⟨e,sl,h1,g,a,b⟩
theorem ZgP(u:Zde D T h h')(s:Zdi T T'){tb:Nat}{t:Tree}(b:Zak h tb (inT T tb) t)(hd:¬D tb):Zak h' tb (inT T' tb) t:=
  (b.congr λj a _=>u.head hd a).mono λj a=>s.to a
theorem XA(u:Zde D T h h')(s:Zdi T T'){z:Rw.VTR}{r:RulesP}(c:Rw.YY h (roT T) z r):Rw.YY h' (roT T') z r:=
  (c.keep λb a _=>u.ro a).mono λb _ a=>s.to a
end
theorem ZnO{α:Type}{g:α->List Nat}:∀{l:List α},(l.flatMap g).Nodup->∀{i j:Nat} {x y:α},l[i]?=some x->l[j]?=some y->i≠j->∀{a:Nat},a∈g x->a∉g y
  |[],_,i,_,_,_,h,_,_,_,_,_=>by cases h
  | b::l,k,i,j,x,y,hi,d,e,a,f,c=>by
    rw[Ayc,List.nodup_append]at k;obtain⟨o,n,m⟩:=k
    cases i with
    | zero=>
      cases j with
      |zero=>exact e rfl
      | succ j=>
        cases hi;exact m a f a (List.mem_flatMap.2 ⟨y,Axo (by simpa using d),c⟩) rfl
    | succ i=>
      cases j with
      | zero=>
        cases d;exact m a c a (List.mem_flatMap.2 ⟨x,Axo (by simpa using hi),f⟩) rfl
      |succ j=>exact ZnO n (by simpa using hi) (by simpa using d) (by omega) f c
theorem Zue{α:Type}{g:α->List Nat}:∀{l:List α},(l.flatMap g).Nodup->∀{i:Nat} {x:α},l[i]?=some x->(g x).Nodup
  |[],_,i,_,h=>by cases h
  | b::l,a,i,x,hi=>by
    rw[Ayc,List.nodup_append]at a
    cases i with
    |zero=>cases hi;exact a.1
    |succ i=>exact Zue a.2.1 (by simpa using hi)
theorem Zqy{α:Type}{g:α->List Nat}{l:List α}{i:Nat}{x y:α}(hi:l[i]?=some x)(a:g y=g x):(l.set i y).flatMap g=l.flatMap g:=by
  induction l generalizing i with
  |nil=>cases hi
  | cons b l c=>
    cases i with
    |zero=>cases hi;simp[a]
    |succ i=>simp[c (by simpa using hi)]
theorem ZnN{α:Type}{g:α->List Value}{l:List α}{i:Nat}{x y:α}(hi:l[i]?=some x)(a:g y=g x):(l.set i y).flatMap g=l.flatMap g:=by
  induction l generalizing i with
  |nil=>cases hi
  | cons b l c=>
    cases i with
    |zero=>cases hi;simp[a]
    |succ i=>simp[c (by simpa using hi)]
structure GS where
  keys:Int
  seed:Int
  r:RulesP
  fl:List ShS
  br:List BkW
  ho:List HtS
  g:Int
  t:Tree
  ld:Int
  cp:Int
  en:Int->Option Ent
  op:Int
  nx:Int
  la:Int
def ZAr(f:FlowP)(s:ShS):Prop:=(f.shape=2\/f.shape=3->s.1≠none)/\(f.shape=1\/f.shape=3->s.2≠none)
structure GOK(G:GS):Prop where
  we:G.r.whereE.2.2=0
  fit:Rw.RulesP.fit G.r
  lf:G.fl.length=G.r.fl.length
  lb:G.br.length=G.r.br.length
  lh:G.ho.length=G.r.ho.length
  sh:∀(i:Nat) (f:FlowP) (s:ShS),G.r.fl[i]?=some f->G.fl[i]?=some s->ZAr f s
  keys:1<=G.keys/\G.keys<=4096
  en:∀(k:Int) (e:Ent),G.en k=some e->Zic e.c
theorem GOK.good{G:GS}(ok:GOK G):Good G.r:=Zqw ok.we
abbrev geL(G:GS)(sb tb fm:Nat)(r:Rw.VTR)(f1 b1 h1:Sl):List Value:=
  [iv G.keys,.int .u64 G.seed,.pointer (some ⟨sb,0,none⟩),slV r.1,slV r.2.1,slV r.2.2.1,slV r.2.2.2.1,slV r.2.2.2.2.1,slV f1,slV b1,slV h1,iv G.g,.pointer (some ⟨tb,0,none⟩),iv G.ld,iv G.cp,.map (some fm),iv G.op,iv G.nx,iv G.la]
abbrev geO(G:GS)(sb tb fm:Nat)(r:Rw.VTR)(f1 b1 h1:Sl):Obj:=.cells (geL G sb tb fm r f1 b1 h1).toArray 95 (0,0)
structure Lay where
  eb:Nat
  sb:Nat
  tb:Nat
  fm:Nat
  z:Rw.VTR
  zs:Rw.VTR
  g:Int
  f1:Sl
  b1:Sl
  h1:Sl
  fs:List (ShP×ShS)
  bs:List (Nat×BkW)
  hs:List (Nat×HtS)
def Lay.hds(L:Lay):List Nat:=L.eb::L.sb::L.tb::L.fm::(L.fs.flatMap (λx=>hdP x.1)++(L.bs.flatMap (λx=>[x.1])++L.hs.flatMap (λx=>[x.1])))
structure FlR(h:Zf)(T:TgM)(f1:Sl)(fs:List (ShP×ShS)):Prop where
  r:Row h f1 2 (fs.flatMap λx=>shL x.1)
  o:Rw.inS (roT T) f1
  e:∀(i:Nat) (x:ShP×ShS),fs[i]?=some x->ShR h (hdT T) x.1 x.2
structure BsR(h:Zf)(T:TgM)(b1:Sl)(bs:List (Nat×BkW)):Prop where
  r:Row h b1 2 (bs.flatMap λx=>bkL x.1 x.2.2)
  o:Rw.inS (roT T) b1
  e:∀(i:Nat) (x:Nat×BkW),bs[i]?=some x->BrP h T x.1 x.2
structure HsR(h:Zf)(T:TgM)(h1:Sl)(hs:List (Nat×HtS)):Prop where
  r:Row h h1 1 (hs.flatMap λx=>[pN x.1])
  o:Rw.inS (roT T) h1
  e:∀(i:Nat) (x:Nat×HtS),hs[i]?=some x->HoP h T x.1 x.2
structure Zb1(h:Zf)(T:TgM)(L:Lay)(G:GS):Prop where
  cells:obj h L.eb=some (geO G L.sb L.tb L.fm L.z L.f1 L.b1 L.h1)
  eT:T L.eb=some (.p L.eb)
  store:obj h L.sb=some (ZoK L.zs L.g)
  sT:T L.sb=some (.p L.sb)
  rz:Rw.YY h (roT T) L.z G.r
  rs:Rw.YY h (roT T) L.zs G.r
  tree:Zak h L.tb (inT T L.tb) G.t
  ent:EnR h T L.fm G.en
  fT:T L.fm=some (.p L.fm)
  lf:L.fs.map (·.2)=G.fl
  lb:L.bs.map (·.2)=G.br
  lh:L.hs.map (·.2)=G.ho
  fl:FlR h T L.f1 L.fs
  br:BsR h T L.b1 L.bs
  ho:HsR h T L.h1 L.hs
  nd:L.hds.Nodup
  hT:∀j,T j≠none->j<sz h
section
variable{D:Nat->Prop}{T T':TgM}{h h':Zf}{L:Lay}{G:GS}
theorem FlR.keep{f1:Sl}{fs:List (ShP×ShS)}(u:Zde D T h h')(s:Zdi T T')(d:FlR h T f1 fs)(hd:∀b,b∈fs.flatMap (λx=>hdP x.1)->¬D b):FlR h' T' f1 fs:=by obtain⟨a,b⟩:=Zkq u s d.r d.o;exact⟨a,b,λi x hi=>ZmW u s (d.e i x hi) λc f=>hd c (List.mem_flatMap.2 ⟨x,Axo hi,f⟩)⟩
theorem BsR.keep{f1:Sl}{fs:List (Nat×BkW)}(u:Zde D T h h')(s:Zdi T T')(c:BsR h T f1 fs)(hd:∀b,b∈fs.flatMap (λx=>[x.1])->¬D b):BsR h' T' f1 fs:=by obtain⟨a,b⟩:=Zkq u s c.r c.o;exact⟨a,b,λi x hi=>Zn0 u s (c.e i x hi) (hd x.1 (List.mem_flatMap.2 ⟨x,Axo hi,by simp⟩))⟩
theorem HsR.keep{f1:Sl}{fs:List (Nat×HtS)}(u:Zde D T h h')(s:Zdi T T')(hz:sz h<=sz h')(c:HsR h T f1 fs)(hd:∀b,b∈fs.flatMap (λx=>[x.1])->¬D b):HsR h' T' f1 fs:=by obtain⟨a,b⟩:=Zkq u s c.r c.o;exact⟨a,b,λi x hi=>ZnE u s hz (c.e i x hi) (hd x.1 (List.mem_flatMap.2 ⟨x,Axo hi,by simp⟩))⟩
theorem Zb1.keep(a:Zb1 h T L G)(u:Zde (λ_=>False) T h h')(s:Zdi T T')(hz:sz h<=sz h')(hT:∀j,T' j≠none->j<sz h'):Zb1 h' T' L G:=
  ⟨(u.head id a.eT).trans a.cells,s.to a.eT,(u.head id a.sT).trans a.store,s.to a.sT,XA u s a.rz,XA u s a.rs,ZgP u s a.tree id,ZkL u s a.ent a.fT id,s.to a.fT,
    a.lf,a.lb,a.lh,a.fl.keep u s λ_ _=>id,a.br.keep u s λ_ _=>id,a.ho.keep u s hz λ_ _=>id,a.nd,hT⟩
theorem Zb1.ext(a:Zb1 h T L G)(e:Ext h h'):Zb1 h' T L G:=a.keep (λj t b _=>ZB e (ZbX a.hT b)) (Zdi.refl T) e.size λj c=>Aqq (a.hT j c) e.size
theorem Zb1.frame(a:Zb1 h T L G){S:Nat->Prop}(u:Upd S h h')(c:∀j,S j->T j=none):Zb1 h' T L G:=
  a.keep (λj t b _=>u.old j (ZbX a.hT b) λhs=>by rw[c j hs]at b;cases b) (Zdi.refl T) u.size λj d=>Aqq (a.hT j d) u.size
theorem ZrC{L:Lay}(c:L.hds.Nodup):(L.sb≠L.eb/\L.tb≠L.eb/\L.fm≠L.eb/\∀b,b∈L.fs.flatMap (λx=>hdP x.1)++(L.bs.flatMap (λx=>[x.1])++L.hs.flatMap (λx=>[x.1]))->b≠L.eb)/\(L.tb≠L.sb/\L.fm≠L.sb/\∀b,b∈L.fs.flatMap (λx=>hdP x.1)++(L.bs.flatMap (λx=>[x.1])++L.hs.flatMap (λx=>[x.1]))->b≠L.sb)/\(L.fm≠L.tb/\∀b,b∈L.fs.flatMap (λx=>hdP x.1)++(L.bs.flatMap (λx=>[x.1])++L.hs.flatMap (λx=>[x.1]))->b≠L.tb)/\(∀b,b∈L.fs.flatMap (λx=>hdP x.1)++(L.bs.flatMap (λx=>[x.1])++L.hs.flatMap (λx=>[x.1]))->b≠L.fm)/\(L.fs.flatMap (λx=>hdP x.1)++(L.bs.flatMap (λx=>[x.1])++L.hs.flatMap (λx=>[x.1]))).Nodup:=by unfold Lay.hds at c;simp only[Ayn,Awr,not_or]at c;obtain⟨⟨d,f,a3,a4⟩,⟨b1,b2,g⟩,⟨c1,h⟩,d1,d2⟩:=c;exact⟨⟨Ne.symm d,Ne.symm f,Ne.symm a3,λb a e=>a4 (e▸a)⟩,⟨Ne.symm b1,Ne.symm b2,λb a e=>g (e▸a)⟩,⟨Ne.symm c1,λb a e=>h (e▸a)⟩,λb a e=>d1 (e▸a),d2⟩
theorem ZEf{L:Lay}(c:L.hds.Nodup):(L.fs.flatMap (λx=>hdP x.1)).Nodup/\(L.bs.flatMap (λx=>[x.1])).Nodup/\(L.hs.flatMap (λx=>[x.1])).Nodup/\(∀b,b∈L.fs.flatMap (λx=>hdP x.1)->b∉L.bs.flatMap (λx=>[x.1])/\b∉L.hs.flatMap (λx=>[x.1]))/\∀b,b∈L.bs.flatMap (λx=>[x.1])->b∉L.hs.flatMap (λx=>[x.1]):=by obtain⟨_,_,_,_,c⟩:=ZrC c;rw[List.nodup_append]at c;obtain⟨g,e,f⟩:=c;rw[List.nodup_append]at e;obtain⟨h,i,j⟩:=e;exact⟨g,h,i,λb d=>⟨λa=>f b d b (Axx.2 (.inl a)) rfl,λa=>f b d b (Axx.2 (.inr a)) rfl⟩,λb d a=>j b d b a rfl⟩
theorem Zs6{b:Nat}(hT:∀j,T j≠none->j<sz h)(c:T b=some (.p b))(u:Upd (· = b) h h'):Zde (· = b) T h h':=λj t a hd=>u.old j (ZbX hT a) λe=>by
  have d:j=b:=e;subst d;rw[c]at a;cases a;exact hd j rfl rfl
theorem Zb1.set(a:Zb1 h T L G){ld cp op nx la:Int}(e:obj h' L.eb=some (geO {G with ld:=ld,cp:=cp,op:=op,nx:=nx,la:=la} L.sb L.tb L.fm L.z L.f1 L.b1 L.h1))(u:Upd (· = L.eb) h h'):Zb1 h' T L {G with ld:=ld,cp:=cp,op:=op,nx:=nx,la:=la}:=by
  obtain⟨⟨f,g,i,d⟩,_⟩:=ZrC a.nd;have k:=Zs6 a.hT a.eT u;have s:=Zdi.refl T;have l:∀b,b∈L.fs.flatMap (λx=>hdP x.1)->¬b=L.eb:=λb c=>d b (Axx.2 (.inl c));have m:∀b,b∈L.bs.flatMap (λx=>[x.1])->¬b=L.eb:=λb c=>d b (Axx.2 (.inr (Axx.2 (.inl c))));have n:∀b,b∈L.hs.flatMap (λx=>[x.1])->¬b=L.eb:=λb c=>d b (Axx.2 (.inr (Axx.2 (.inr c))))
  exact ⟨e,a.eT,(k.head f a.sT).trans a.store,a.sT,XA k s a.rz,XA k s a.rs,ZgP k s a.tree g,ZkL k s a.ent a.fT i,a.fT,
    a.lf,a.lb,a.lh,a.fl.keep k s l,a.br.keep k s m,a.ho.keep k s u.size n,a.nd,λj o=>Aqq (a.hT j o) u.size⟩
theorem Zb1.tree'{O':Nat->Prop}{t':Tree}(a:Zb1 h T L G)(f:Zak h' L.tb O' t')(u:Upd (inT T L.tb) h h')(gr:Zsi (inT T L.tb) O' h h'):Zb1 h' (ZhZ T (.p L.tb) (sz h) (sz h')) L {G with t:=t'}:=by
  obtain⟨⟨_,i,_,_⟩,⟨l,_,_⟩,⟨m,e⟩,_⟩:=ZrC a.nd;have k:Zde (· = L.tb) T h h':=Zde.of a.hT (u.mono λj _ c=>⟨L.tb,rfl,c⟩);have s:Zdi T (ZhZ T (.p L.tb) (sz h) (sz h')):=Zgt a.hT;have n:∀b,b∈L.fs.flatMap (λx=>hdP x.1)->¬b=L.tb:=λb d=>e b (Axx.2 (.inl d));have o:∀b,b∈L.bs.flatMap (λx=>[x.1])->¬b=L.tb:=λb d=>e b (Axx.2 (.inr (Axx.2 (.inl d))));have q:∀b,b∈L.hs.flatMap (λx=>[x.1])->¬b=L.tb:=λb d=>e b (Axx.2 (.inr (Axx.2 (.inr d))))
  refine ⟨(k.head (Ne.symm i) a.eT).trans a.cells,s.to a.eT,(k.head (Ne.symm l) a.sT).trans a.store,s.to a.sT,XA k s a.rz,XA k s a.rs,f.mono λj c=>?_,ZkL k s a.ent a.fT m,s.to a.fT,
    a.lf,a.lb,a.lh,a.fl.keep k s n,a.br.keep k s o,a.ho.keep k s u.size q,a.nd,ZmV (λj c=>Aqq (a.hT j c) u.size) (Aqo _)⟩
  rcases gr.1 j c with g|g
  ·exact s.to g
  ·exact Zil g
theorem Zb1.mapped(a:Zb1 h T L G){en:Int->Option Ent}(hm:EnR h' T L.fm en)(u:Upd (· = L.fm) h h'):Zb1 h' T L {G with en:=en}:=by
  obtain⟨⟨_,_,d,_⟩,⟨_,e,_⟩,⟨t3,_⟩,f4,_⟩:=ZrC a.nd;have k:=Zs6 a.hT a.fT u;have s:=Zdi.refl T;have f:∀b,b∈L.fs.flatMap (λx=>hdP x.1)->¬b=L.fm:=λb c=>f4 b (Axx.2 (.inl c));have g:∀b,b∈L.bs.flatMap (λx=>[x.1])->¬b=L.fm:=λb c=>f4 b (Axx.2 (.inr (Axx.2 (.inl c))));have i:∀b,b∈L.hs.flatMap (λx=>[x.1])->¬b=L.fm:=λb c=>f4 b (Axx.2 (.inr (Axx.2 (.inr c))))
  exact ⟨(k.head (Ne.symm d) a.eT).trans a.cells,a.eT,(k.head (Ne.symm e) a.sT).trans a.store,a.sT,XA k s a.rz,XA k s a.rs,ZgP k s a.tree (Ne.symm t3),hm,a.fT,
    a.lf,a.lb,a.lh,a.fl.keep k s f,a.br.keep k s g,a.ho.keep k s u.size i,a.nd,λj l=>Aqq (a.hT j l) u.size⟩
end
section
variable{T T':TgM}{h h':Zf}{L:Lay}{G:GS}
theorem Zb1.ge(a:Zb1 h T L G){i:Nat}{x:ShP×ShS}(b:L.fs[i]?=some x):G.fl[i]?=some x.2:=by rw[<-a.lf,Awy,b];rfl
theorem Zb1.gf(b:Zb1 h T L G){i:Nat}{s:ShS}(a:G.fl[i]?=some s):∃p,L.fs[i]?=some (p,s):=by
  rw[<-b.lf,Awy]at a
  cases q:L.fs[i]? with
  |none=>rw[q]at a;cases a
  |some x=>rw[q]at a;cases a;exact⟨x.1,rfl⟩
theorem Zb1.gb(b:Zb1 h T L G){i:Nat}{s:BkW}(a:G.br[i]?=some s):∃p,L.bs[i]?=some (p,s):=by
  rw[<-b.lb,Awy]at a
  cases q:L.bs[i]? with
  |none=>rw[q]at a;cases a
  |some x=>rw[q]at a;cases a;exact⟨x.1,rfl⟩
theorem Zb1.gh(b:Zb1 h T L G){i:Nat}{s:HtS}(a:G.ho[i]?=some s):∃p,L.hs[i]?=some (p,s):=by
  rw[<-b.lh,Awy]at a
  cases q:L.hs[i]? with
  |none=>rw[q]at a;cases a
  |some x=>rw[q]at a;cases a;exact⟨x.1,rfl⟩
theorem Zp3{α:Type}{l:List α}{i j:Nat}{x y:α}(h:(l.set i x)[j]?=some y):(j=i/\y=x)\/(j≠i/\l[j]?=some y):=by
  by_cases e:i=j
  ·subst e;rw[List.getElem?_set_self']at h
   cases q:l[i]? with
   |none=>rw[q]at h;cases h
   |some z=>rw[q]at h;cases h;exact .inl ⟨rfl,rfl⟩
  ·rw[List.getElem?_set_ne e]at h;exact .inr ⟨λa=>e a.symm,h⟩
theorem GOK.setF(ok:GOK G){i:Nat}{s s':ShS}(d:G.fl[i]?=some s)(hs:∀f,ZAr f s->ZAr f s'):GOK {G with fl:=G.fl.set i s'}:=
  ⟨ok.we,ok.fit,(by show(G.fl.set i s').length=_;rw[List.length_set];exact ok.lf),ok.lb,ok.lh,λj f y b e=>by
    rcases Zp3 e with⟨c,a⟩ |⟨c,a⟩
    ·subst c;subst a;exact hs f (ok.sh j f s b d)
    ·exact ok.sh j f y b a,ok.keys,ok.en⟩
theorem GOK.setB(ok:GOK G){i:Nat}{s:BkW}:GOK {G with br:=G.br.set i s}:=
  ⟨ok.we,ok.fit,ok.lf,(by show(G.br.set i s).length=_;rw[List.length_set];exact ok.lb),ok.lh,ok.sh,ok.keys,ok.en⟩
theorem GOK.setH(ok:GOK G){i:Nat}{s:HtS}:GOK {G with ho:=G.ho.set i s}:=
  ⟨ok.we,ok.fit,ok.lf,ok.lb,(by show(G.ho.set i s).length=_;rw[List.length_set];exact ok.lh),ok.sh,ok.keys,ok.en⟩
theorem Zb1.setF(a:Zb1 h T L G){i:Nat}{x:ShP×ShS}(l:L.fs[i]?=some x){s':ShS}(t:ShR h' (hdT T) x.1 s')(u:Upd (λj=>∃d,d∈hdP x.1/\T j=some (.p d)) h h'):Zb1 h' T {L with fs:=L.fs.set i (x.1,s')} {G with fl:=G.fl.set i s'}:=by
  obtain⟨⟨H,I,J,v⟩,⟨_,_,w⟩,⟨_,t4⟩,f4,_⟩:=ZrC a.nd;obtain⟨z,_,_,n,_⟩:=ZEf a.nd;have k:Zde (· ∈ hdP x.1) T h h':=Zde.of a.hT u;have s:=Zdi.refl T;have hm:∀b,b∈hdP x.1->b∈L.fs.flatMap (λx=>hdP x.1):=λb f=>List.mem_flatMap.2 ⟨x,Axo l,f⟩;have g:∀b,b∈hdP x.1->b∈L.fs.flatMap (λx=>hdP x.1)++(L.bs.flatMap (λx=>[x.1])++L.hs.flatMap (λx=>[x.1])):=λb f=>Axx.2 (.inl (hm b f));have A:(L.fs.set i (x.1,s')).flatMap (λx=>hdP x.1)=L.fs.flatMap (λx=>hdP x.1):=Zqy l rfl;have B:(L.fs.set i (x.1,s')).flatMap (λx=>shL x.1)=L.fs.flatMap (λx=>shL x.1):=ZnN l rfl;obtain⟨C,D⟩:=Zkq k s a.fl.r a.fl.o
  refine ⟨(k.head (λc=>v _ (g _ c) rfl) a.eT).trans a.cells,a.eT,(k.head (λc=>w _ (g _ c) rfl) a.sT).trans a.store,a.sT,XA k s a.rz,XA k s a.rs,
    ZgP k s a.tree λc=>t4 _ (g _ c) rfl,ZkL k s a.ent a.fT λc=>f4 _ (g _ c) rfl,a.fT,?_,a.lb,a.lh,⟨by rw[B];exact C,D,λj y E=>?_⟩,a.br.keep k s λb f c=>(n b (hm b c)).1 f,a.ho.keep k s u.size λb f c=>(n b (hm b c)).2 f,?_,λj F=>Aqq (a.hT j F) u.size⟩
  ·show(L.fs.set i (x.1,s')).map (·.2)=G.fl.set i s';rw[List.map_set,a.lf]
  ·rcases Zp3 E with⟨q,m⟩ |⟨q,m⟩
   ·subst m;exact t
   ·exact ZmW k s (a.fl.e j y m) λb f c=>ZnO z m l q f c
  ·show(L.eb::L.sb::L.tb::L.fm::((L.fs.set i (x.1,s')).flatMap (λx=>hdP x.1)++_)).Nodup;rw[A];exact a.nd
theorem Zb1.setB(c:Zb1 h T L G){i:Nat}{x:Nat×BkW}(m:L.bs[i]?=some x){B':{B:BkS // WOK B.r}}{O':Nat->Prop}(v:BkR h' x.1 O' B'.1 B'.2)(u:Upd (inT T x.1) h h')(gr:Zsi (inT T x.1) O' h h'):Zb1 h' (ZhZ T (.p x.1) (sz h) (sz h')) {L with bs:=L.bs.set i (x.1,B',x.2.2)} {G with br:=G.br.set i (B',x.2.2)}:=by
  obtain⟨⟨J,K,M,w⟩,⟨_,_,z⟩,⟨_,t4⟩,f4,_⟩:=ZrC c.nd;obtain⟨_,A,_,C,n5⟩:=ZEf c.nd;have k:Zde (· = x.1) T h h':=Zde.of c.hT (u.mono λj _ l=>⟨x.1,rfl,l⟩);have s:Zdi T (ZhZ T (.p x.1) (sz h) (sz h')):=Zgt c.hT;have hm:x.1∈L.bs.flatMap (λx=>[x.1]):=List.mem_flatMap.2 ⟨x,Axo m,by simp⟩;have f:x.1∈L.fs.flatMap (λx=>hdP x.1)++(L.bs.flatMap (λx=>[x.1])++L.hs.flatMap (λx=>[x.1])):=Axx.2 (.inr (Axx.2 (.inl hm)));have D:(L.bs.set i (x.1,B',x.2.2)).flatMap (λx=>[x.1])=L.bs.flatMap (λx=>[x.1]):=Zqy m rfl;have E:(L.bs.set i (x.1,B',x.2.2)).flatMap (λx=>bkL x.1 x.2.2)=L.bs.flatMap (λx=>bkL x.1 x.2.2):=ZnN m rfl;obtain⟨F,H⟩:=Zkq k s c.br.r c.br.o
  refine ⟨(k.head (λd=>w _ f d.symm) c.eT).trans c.cells,s.to c.eT,(k.head (λd=>z _ f d.symm) c.sT).trans c.store,s.to c.sT,XA k s c.rz,XA k s c.rs,
    ZgP k s c.tree λd=>t4 _ f d.symm,ZkL k s c.ent c.fT λd=>f4 _ f d.symm,s.to c.fT,c.lf,?_,c.lh,c.fl.keep k s λb q d=>(C b q).1 (d▸hm),⟨by rw[E];exact F,H,λj y I=>?_⟩,c.ho.keep k s u.size λb q d=>n5 x.1 hm (d▸q),?_,ZmV (λj l=>Aqq (c.hT j l) u.size) (Aqo _)⟩
  ·show(L.bs.set i (x.1,B',x.2.2)).map (·.2)=G.br.set i (B',x.2.2);rw[List.map_set,c.lb]
  ·rcases Zp3 I with⟨t,n⟩ |⟨t,n⟩
   ·subst n;refine BkR.mono v λj l=>?_
    rcases gr.1 j l with g|g
    ·exact s.to g
    ·exact Zil g
   ·exact Zn0 k s (c.br.e j y n) λd=>ZnO A n m t (a:=y.1) (by simp) (by rw[d];simp)
  ·show(L.eb::L.sb::L.tb::L.fm::(_++((L.bs.set i (x.1,B',x.2.2)).flatMap (λx=>[x.1])++_))).Nodup;rw[D];exact c.nd
theorem Zb1.setH(c:Zb1 h T L G){i:Nat}{x:Nat×HtS}(v:L.hs[i]?=some x){m:HtS}{B q:Nat->Option HTag}(C:∀j,B j≠none->T j=some (.p x.1))(D:HtR h' x.1 q m)(gr:GrT B q h h'):Zb1 h' (ZhZ T (.p x.1) (sz h) (sz h')) {L with hs:=L.hs.set i (x.1,m)} {G with ho:=G.ho.set i m}:=by
  obtain⟨⟨Q,R,U,F⟩,⟨_,_,H⟩,⟨_,t4⟩,f4,_⟩:=ZrC c.nd;obtain⟨_,_,I,J,n5⟩:=ZEf c.nd;have u:=gr.upd;have k:Zde (· = x.1) T h h':=Zde.of c.hT (u.mono λj _ t=>⟨x.1,rfl,C j t⟩);have s:Zdi T (ZhZ T (.p x.1) (sz h) (sz h')):=Zgt c.hT;have hm:x.1∈L.hs.flatMap (λx=>[x.1]):=List.mem_flatMap.2 ⟨x,Axo v,by simp⟩;have l:x.1∈L.fs.flatMap (λx=>hdP x.1)++(L.bs.flatMap (λx=>[x.1])++L.hs.flatMap (λx=>[x.1])):=Axx.2 (.inr (Axx.2 (.inr hm)));have K:(L.hs.set i (x.1,m)).flatMap (λx=>[x.1])=L.hs.flatMap (λx=>[x.1]):=Zqy v rfl;have M:(L.hs.set i (x.1,m)).flatMap (λx=>[pN x.1])=L.hs.flatMap (λx=>[pN x.1]):=ZnN v rfl;obtain⟨N,O⟩:=Zkq k s c.ho.r c.ho.o
  refine ⟨(k.head (λd=>F _ l d.symm) c.eT).trans c.cells,s.to c.eT,(k.head (λd=>H _ l d.symm) c.sT).trans c.store,s.to c.sT,XA k s c.rz,XA k s c.rs,
    ZgP k s c.tree λd=>t4 _ l d.symm,ZkL k s c.ent c.fT λd=>f4 _ l d.symm,s.to c.fT,c.lf,c.lb,?_,c.fl.keep k s λb z d=>(J b z).2 (d▸hm),c.br.keep k s λb z d=>n5 b z (d▸hm),⟨by rw[M];exact N,O,λj y P=>?_⟩,?_,ZmV (λj t=>Aqq (c.hT j t) u.size) (Aqo _)⟩
  ·show(L.hs.set i (x.1,m)).map (·.2)=G.ho.set i m;rw[List.map_set,c.lh]
  ·rcases Zp3 P with⟨E,w⟩ |⟨E,w⟩
   ·subst w;obtain⟨V,S,W,kb,f,n,wt,sl,lb,A⟩:=D.ex;refine⟨q,D,λj t=>?_⟩
    rcases gr.new j t with g|g
    ·exact s.to (C j g)
    ·exact Zil ⟨g,A.lt j t⟩
   ·exact ZnE k s u.size (c.ho.e j y w) λd=>ZnO I w v E (a:=y.1) (by simp) (by rw[d];simp)
  ·show(L.eb::L.sb::L.tb::L.fm::(_++(_++(L.hs.set i (x.1,m)).flatMap (λx=>[x.1])))).Nodup;rw[K];exact c.nd
end
section
variable{α β:Type}{same:α->β->Bool}{was:List β}
theorem Zf0:∀{now:List α} {us:List Bool},(Zfi same was now us).length=now.length
  |[],_=>rfl
  | r::rs,us=>by
    show(Zfi same was rs _).length+1=rs.length+1;rw[Zf0]
theorem ZmE:∀{now:List α} {us:List Bool},was.length=us.length->∀{i:Nat} {a:Int},(Zfi same was now us)[i]?=some a->a= -1\/∃k w b,a=((k:Nat):Int)/\was[k]?=some w/\now[i]?=some b/\same b w=true/\us[k]?=some false
  |[],_,_,i,a,h=>by cases h
  | r::rs,us,hl,i,a,h=>by
    have f:=ZsT (eq:=same r) (ws:=was) (us:=us) (i:=0) hl
    cases i with
    | zero=>
      have e:(pick (same r) was us 0).1=a:=Option.some.inj h
      rcases f with⟨h1,_⟩ |⟨k,w,h1,d,h3,l,_⟩
      ·exact .inl (e▸h1)
      ·exact .inr ⟨k,w,r,by rw[<-e,h1,Awb],d,rfl,h3,l⟩
    | succ i=>
      have h':(Zfi same was rs (pick (same r) was us 0).2)[i]?=some a:=by
        have:(Zfi same was (r::rs) us)=(pick (same r) was us 0).1::Zfi same was rs (pick (same r) was us 0).2:=rfl;rw[this]at h;simpa using h
      rcases ZmE (by rw[Zk3];exact hl) h' with g|⟨k,w,b,m,n,o,p,c⟩
      ·exact .inl g
      ·refine .inr ⟨k,w,b,m,n,by simpa using o,p,?_⟩
       rcases f with⟨_,d⟩ |⟨j,t,_,_,_,_,s⟩
       ·rw[d]at c;exact c
       ·rw [s]at c
        by_cases e:j=k
        ·subst e;rw[List.getElem?_set_self']at c
         cases q:us[j]? with
         |none=>rw[q]at c;cases c
         |some u=>rw[q]at c;cases c
        ·rw[List.getElem?_set_ne e]at c;exact c
theorem Zld:∀{now:List α} {us:List Bool},was.length=us.length->∀{i j k:Nat},(Zfi same was now us)[i]?=some (k:Int)->(Zfi same was now us)[j]?=some (k:Int)->i=j
  |[],_,_,i,_,_,h,_=>by cases h
  | r::rs,us,hl,i,j,k,hi,c=>by
    have l:=ZsT (eq:=same r) (ws:=was) (us:=us) (i:=0) hl;have e:(Zfi same was (r::rs) us)=(pick (same r) was us 0).1::Zfi same was rs (pick (same r) was us 0).2:=rfl
    have no:∀{m:Nat},(pick (same r) was us 0).1=(k:Int)->(Zfi same was rs (pick (same r) was us 0).2)[m]?=some (k:Int)->False:=λ{m} h1 n=>by
      rcases ZmE (by rw[Zk3];exact hl) n with g|⟨d,w,b,p,s,t,v,a⟩
      ·omega
      ·have:d=k:=by omega
       subst this
       rcases l with⟨h3,_⟩ |⟨f,x,h3,_,_,_,o⟩
       ·omega
       ·have:f=d:=by omega
        subst this;rw[o,List.getElem?_set_self']at a
        cases q:us[f]? with
        |none=>rw[q]at a;cases a
        |some u=>rw[q]at a;cases a
    rw[e]at hi c
    cases i with
    | zero=>
      cases j with
      |zero=>rfl
      |succ j=>exact(no (Option.some.inj hi) (by simpa using c)).elim
    | succ i=>
      cases j with
      |zero=>exact(no (Option.some.inj c) (by simpa using hi)).elim
      |succ j=>exact congrArg Nat.succ (Zld (us:=(pick (same r) was us 0).2) (by rw[Zk3];exact hl) (by simpa using hi) (by simpa using c))
end
theorem Zk8{α:Type}{g:α->List Nat}:∀{l:List α},(l.flatMap g).Nodup->∀{x:α},(g x).Nodup->(∀b,b∈g x->b∉l.flatMap g)->((l++[x]).flatMap g).Nodup:=λ{l} h {x} h1 c=>by
  rw[Ayj,List.nodup_append];refine⟨h,by simpa using h1,λa d b f e=>?_⟩;subst e;exact c a (by simpa using f) d
structure Sel{σ:Type}(g:σ->List Nat)(old:List σ)(K:List Int)(base top:Nat)(done:List σ):Prop where
  nd:(done.flatMap g).Nodup
  of:∀(i:Nat) (x:σ),done[i]?=some x->(∃k:Nat,K[i]?=some (k:Int)/\old[k]?=some x)\/∀b,b∈g x->base<=b/\b<top
section
variable{σ:Type}{g:σ->List Nat}{old:List σ}{K:List Int}{base tp tp':Nat}{done:List σ}
theorem Sel.nil:Sel g old K base tp []:=⟨List.nodup_nil,λi x h=>by cases h⟩
theorem Sel.top(s:Sel g old K base tp done)(h:tp<=tp'):Sel g old K base tp' done:=⟨s.nd,λi x a=>(s.of i x a).imp id λc b d=>by have:=c b d;omega⟩
theorem Sel.heads(s:Sel g old K base tp done){b:Nat}(c:b∈done.flatMap g):b∈old.flatMap g\/(base<=b/\b<tp):=by
  obtain⟨x,d,a⟩:=List.mem_flatMap.1 c;obtain⟨i,hi⟩:=Ayg d
  rcases s.of i x hi with⟨k,_,e⟩ |h
  ·exact .inl (List.mem_flatMap.2 ⟨x,Axo e,a⟩)
  ·exact .inr (h b a)
theorem ZqL{α:Type}{l:List α}{x y:α}{i:Nat}(h:(l++[x])[i]?=some y):l[i]?=some y\/(i=l.length/\y=x):=by
  by_cases hi:i<l.length
  ·rw[Awu hi]at h;exact .inl h
  ·rw [Awv (by omega)]at h
   by_cases e:i=l.length
   ·subst e;rw[Nat.sub_self]at h;exact .inr ⟨rfl,(Option.some.inj h).symm⟩
   ·rw[Aqt (by simp;omega)]at h;cases h
theorem Sel.keep(s:Sel g old K base tp done)(ho:(old.flatMap g).Nodup)(o:∀b,b∈old.flatMap g->b<base)(p:∀{i j k:Nat},K[i]?=some (k:Int)->K[j]?=some (k:Int)->i=j){k:Nat}{x:σ}(n:K[done.length]?=some (k:Int))(d:old[k]?=some x):Sel g old K base tp (done++[x]):=by
  refine⟨Zk8 s.nd (Zue ho d) λb a f=>?_,λi y l=>?_⟩
  ·obtain ⟨y,l,c⟩:=List.mem_flatMap.1 f;obtain⟨i,hi⟩:=Ayg l
   have q:i<done.length:=by
     rcases Aqd i done.length with h|h
     ·exact h
     ·rw[Aqt h]at hi;cases hi
   rcases s.of i y hi with⟨r,h1,m⟩ |h
   ·by_cases e:k=r
    ·subst e;have:=p n h1;omega
    ·exact ZnO ho d m e a c
   ·have:=h b c;have:=o b (List.mem_flatMap.2 ⟨x,Axo d,a⟩);omega
  ·rcases ZqL l with h|⟨h1,m⟩
   ·exact s.of i y h
   ·subst h1;subst m;exact .inl ⟨k,n,d⟩
theorem Sel.new(s:Sel g old K base tp done)(f:∀b,b∈old.flatMap g->b<base)(h0:base<=tp)(h1:tp<=tp'){x:σ}(j:(g x).Nodup)(e:∀b,b∈g x->tp<=b/\b<tp'):Sel g old K base tp' (done++[x]):=by
  refine⟨Zk8 s.nd j λb a c=>?_,λi y k=>?_⟩
  ·have:=e b a
   rcases s.heads c with h|h
   ·have:=f b h;omega
   ·omega
  ·rcases ZqL k with h|⟨_,l⟩
   ·exact(s.top h1).of i y h
   ·subst l;exact .inr λb d=>by have:=e b d;omega
end
def Zkr{α σ:Type}(new:α->σ)(old:List σ)(k:Int)(a:α):σ:=if 0<=k then(old[k.toNat]?).getD (new a)else new a
def ZtP{α σ:Type}(new:α->σ)(old:List σ):List Int->List α->List σ
  |k::K,a::l=>Zkr new old k a::ZtP new old K l
  |_,_=>[]
theorem Zp5{α σ:Type}{new:α->σ}{old:List σ}:∀{K:List Int} {l:List α},K.length=l.length->(ZtP new old K l).length=l.length
  |[],[],_=>rfl
  | k::K,a::l,h=>by
    show(ZtP new old K l).length+1=l.length+1;rw[Zp5 (by simpa using h)]
theorem ZtO{α σ:Type}{new:α->σ}{old:List σ}:∀{K:List Int} {l:List α} {i:Nat} {k:Int} {a:α},K[i]?=some k->l[i]?=some a->(ZtP new old K l)[i]?=some (Zkr new old k a)
  |[],_,_,_,_,h,_=>by cases h
  |_::_,[],_,_,_,_,h=>by cases h
  |k::K,a::l,0,_,_,h1,b=>by cases h1;cases b;rfl
  | k::K,a::l,i+1,c,a',h1,b=>by
    show(Zkr new old k a::ZtP new old K l)[i+1]?=_;rw[Axh];exact ZtO (by simpa using h1) (by simpa using b)
def zB:BkS:=⟨(em,0,0,0,0,1000000,0,()),1,0,0,0,⟨0,λ_=>z6⟩⟩
def bkZ(f:YN):B7:=Rw.ZBO f
open Classical in
noncomputable def BkW.new(f:YN)(id:Int):BkW:=if h:WOK (bkZ f)then(⟨⟨bkZ f,1,0,0,0,⟨0,λ_=>z6⟩⟩,h⟩,id)else(⟨zB,by unfold WOK zB;decide⟩,id)
noncomputable def Zlu(old:List BkW):List Int->List YN->Int->List BkW×Int
  |k::K,a::l,g=>if 0<=k then((old[k.toNat]?).getD (BkW.new a g)::(Zlu old K l g).1,(Zlu old K l g).2)else(BkW.new a (IntKind.wrap .i64 (g+1))::(Zlu old K l (IntKind.wrap .i64 (g+1))).1,(Zlu old K l (IntKind.wrap .i64 (g+1))).2)
  |_,_,g=>([],g)
theorem Zw1{old:List BkW}{k:Int}{K:List Int}{a:YN}{l:List YN}{g:Int}(h:0<=k):Zlu old (k::K) (a::l) g=((old[k.toNat]?).getD (BkW.new a g)::(Zlu old K l g).1,(Zlu old K l g).2):=if_pos h
theorem ZAs{old:List BkW}{k:Int}{K:List Int}{a:YN}{l:List YN}{g:Int}(h:¬ 0<=k):Zlu old (k::K) (a::l) g=(BkW.new a (IntKind.wrap .i64 (g+1))::(Zlu old K l (IntKind.wrap .i64 (g+1))).1,(Zlu old K l (IntKind.wrap .i64 (g+1))).2):=if_neg h
theorem Zp6{old:List BkW}:∀{K:List Int} {l:List YN} {g:Int},K.length=l.length->(Zlu old K l g).1.length=l.length
  |[],[],_,_=>rfl
  | k::K,a::l,g,h=>by
    unfold Zlu;split
    ·show(Zlu old K l g).1.length+1=l.length+1;rw[Zp6 (by simpa using h)]
    ·show(Zlu old K l _).1.length+1=l.length+1;rw[Zp6 (by simpa using h)]
def Zsg(o:Option Node)(at_:Int):C6:=match o with
  |some n=>n.sum at_
  |none=>z6
def oE(o:Option Node)(at_:Int):Int:=match o with
  |some n=>ZO n.last at_
  |none=>1
def Ziq(o:Option Node)(at_:Int):Int:=match o with
  |some n=>n.past at_
  |none=>0
def ZGt(o:Option Node)(at_:Int):Int:=match o with
  |some n=>n.most at_
  |none=>0
def oFl(o:Option Node):Int:=match o with
  |some n=>n.fl
  |none=>0
section
variable{h:Zf}{p:Option Addr}{o:Option Node}
theorem ZgK(f:Zn9 h p o){at_:Int}{K:C6->Int->Zf->Prop}(d:∀h',Ext h h'->K (Zsg o at_) (oE o at_) h'):Xa p at_ K h:=by
  rcases f with⟨ho,e⟩ |⟨m,a,q,b,mb,n,ho,e,g⟩<;>subst ho<;>subst e
  ·unfold Xa ZeW;refine ZH λh1 c1 i r=>Za (Zn rfl (Zaw c1 λj c l s=>Za ?_));exact rI (Zb c rfl) (rI (Zb c rfl) (rI (Zb c rfl) (rI (Zb c rfl) (rI (Zb c rfl) (rI (Zb c rfl) (d j (i.then l λk d=>by subst d;exact Aqo _)))))))
  ·exact Zr4 g d
theorem Ztx(f:Zn9 h p o){at_:Int}{K:Int->Int->Zf->Prop}(c:∀e h',Ext h h'->K (Ziq o at_) e h'):ZaK p at_ K h:=by
  rcases f with⟨ho,d⟩ |⟨j,a,k,b,mb,n,ho,d,g⟩<;>subst ho<;>subst d
  ·unfold ZaK ZdU;exact Za (Za (Zn rfl (Za (Za (c _ h (Ext.refl _))))))
  ·exact ZyD g λh' i=>c _ h' i
theorem Zty(f:Zn9 h p o){at_:Int}{K:Int->Int->Zf->Prop}(c:∀e h',Ext h h'->K (ZGt o at_) e h'):ZaL p at_ K h:=by
  rcases f with⟨ho,d⟩ |⟨j,a,k,b,mb,n,ho,d,g⟩<;>subst ho<;>subst d
  ·unfold ZaL ZdV;exact Za (Za (Zn rfl (Za (Za (c _ h (Ext.refl _))))))
  ·exact Zv2 g λh' i=>c _ h' i
theorem ZhD(e:Zn9 h p o){K:Int->Zf->Prop}(c:K (oFl o) h):Yv p K h:=by
  rcases e with⟨ho,d⟩ |⟨g,a,i,b,mb,n,ho,d,f⟩<;>subst ho<;>subst d
  ·exact ZjS c
  ·exact ZkS f c
end
theorem ZuE(o:Option Node)(at_:Int):∃v:Int,∀{h:Zf} {p:Option Addr} {K:Int->Int->Zf->Prop},Zn9 h p o->(∀e h',Ext h h'->K v e h')->ZaM p at_ K h:=by
  by_cases q:oE o at_=0
  ·by_cases n:(Zsg o at_).2.2.1=0
   ·refine ⟨0,λ{h p K} d a=>?_⟩
    unfold ZaM ZbZ;refine Za (Za (ZgK d λh1 b=>ZH λr f g s=>Zaw f λh3 c i z3=>Za ?_));have j:Ext h h3:=(b.trans g).then i λk a=>by subst a;exact b.size
    rw[q];exact⟨λl=>absurd l (by decide),λ_=>rI (Zb c rfl) (Z0 (λ_=>Za (Za (a _ h3 j))) λm=>absurd n m)⟩
   ·refine ⟨IntKind.wrap .i64 (Int.tdiv (Zsg o at_).2.2.2.2.1 (Zsg o at_).2.2.1),λ{h p K} d a=>?_⟩
    unfold ZaM ZbZ;refine Za (Za (ZgK d λh1 b=>ZH λr f g s=>Zaw f λh3 c i z3=>Za ?_));have j:Ext h h3:=(b.trans g).then i λk a=>by subst a;exact b.size
    rw[q];exact⟨λl=>absurd l (by decide),λ_=>rI (Zb c rfl) (Z0 (λm=>absurd m n) λm=>rI (Zb c rfl) (rI (Zb c rfl) ⟨m,Za (Za (a _ h3 j))⟩))⟩
  ·refine ⟨0,λ{h p K} d a=>?_⟩
   unfold ZaM ZbZ;refine Za (Za (ZgK d λh1 b=>ZH λr f g s=>Zaw f λh3 c i z3=>Za ?_));have j:Ext h h3:=(b.trans g).then i λk a=>by subst a;exact b.size
   exact⟨λ_=>Za (Za (a _ h3 j)),λl=>absurd l (by simpa using q)⟩
theorem Zr8{h:Zf}{p:Option Addr}{o:Option Node}(c:Zn9 h p o){at_:Int}{K:Int->Int->Zf->Prop}(a:∀e h',Ext h h'->K (Zsg o at_).2.2.2.2.2.1 e h'):Zc4 p at_ K h:=by
  unfold Zc4 Zfl;refine Za (Za (ZgK c λh1 b=>ZH λl d f m=>Zaw d λh3 g i z3=>Za ?_));have j:Ext h h3:=(b.trans f).then i λk a=>by subst a;exact b.size
  exact rI (Zb g rfl) (Za (Za (a _ h3 j)))
end Go.Proofs.YtonbfpnngkemiaaGreat
namespace Go.Proofs.YtonbfpnngkemiaaGreat
open Go Go.Fw Go.Js
open Classical in
noncomputable def Zmt(a b:Zen):Bool:=decide (a=b)
theorem Zrc(a b:Zen):Zmt a b=true↔a=b:=by unfold Zmt;exact decide_eq_true_iff
abbrev kpF(G:GS)(r:RulesP):List Int:=Zfi Zw4 G.r.fl r.fl (List.replicate G.r.fl.length false)
abbrev kpB(G:GS)(r:RulesP):List Int:=Zfi ZDx G.r.br r.br (List.replicate G.r.br.length false)
noncomputable abbrev kpH(G:GS)(r:RulesP):List Int:=Zfi Zmt G.r.ho r.ho (List.replicate G.r.ho.length false)
noncomputable def GS.load(G:GS)(r:RulesP):GS:=
  {G with r:=r,fl:=ZtP ShS.new G.fl (kpF G r) r.fl,br:=(Zlu G.br (kpB G r) r.br G.g).1,g:=(Zlu G.br (kpB G r) r.br G.g).2,ho:=ZtP (λf=>HtS.new f G.keys G.seed) G.ho (kpH G r) r.ho}
theorem ZAq(f:FlowP):ZAr f (ShS.new f):=by
  unfold ShS.new;refine⟨λq=>?_,λq=>?_⟩
  ·show(if _ then _ else _)≠none;rw[if_pos q];exact λe=>by cases e
  ·show(if _ then _ else _)≠none;rw[if_pos q];exact λe=>by cases e
theorem GOK.load{G:GS}{r:RulesP}(ok:GOK G)(p:r.whereE.2.2=0)(q:Rw.RulesP.fit r):GOK (G.load r):=by
  refine⟨p,q,Zp5 Zf0,Zp6 Zf0,Zp5 Zf0,λi f s hi hs=>?_,ok.keys,ok.en⟩;have a:r.fl[i]?=some f:=hi;have c:(ZtP ShS.new G.fl (kpF G r) r.fl)[i]?=some s:=hs
  have g:i<r.fl.length:=by
    rcases Aqd i r.fl.length with h|h
    ·exact h
    ·rw[Aqt h]at a;cases a
  have j:i<(kpF G r).length:=by rw[Zf0];exact g
  obtain⟨k,o⟩:∃k,(kpF G r)[i]?=some k:=⟨_,Axy j⟩;rw[ZtO o a]at c;have d:=Option.some.inj c
  rcases ZmE (by simp) o with h|⟨m,w,b,h1,l,h3,t,v⟩
  ·subst h;rw[<-d];unfold Zkr;rw[if_neg (by decide)];exact ZAq f
  ·subst h1
   have e:b=f:=by rw[a]at h3;exact(Option.some.inj h3).symm
   subst e;have u:=(Zw3 b w).1 t;subst u
   have n:m<G.fl.length:=by
     rw[ok.lf]
     rcases Aqd m G.r.fl.length with h|h
     ·exact h
     ·rw[Aqt h]at l;cases l
   have hm:G.fl[m]?=some G.fl[m]:=Axy n;have:=ok.sh m b _ l hm;rw[<-d];unfold Zkr;rw[if_pos (by omega),Aqu,hm];exact this
def GS.new(keys seed:Int):GS:=⟨keys,seed,⟨[],[],[],[],[]⟩,[],[],[],0,Tree.zero,0,0,λ_=>none,0,1,0⟩
theorem GOK.new{keys seed:Int}(a:1<=keys/\keys<=4096):GOK (GS.new keys seed):=by
  have no:∀{α:Type} {P:α->Prop} (f:α),f∈([]:List α)->P f:=λf b=>by cases b
  exact⟨rfl,⟨no,no,no,no⟩,rfl,rfl,rfl,λi f s hi _=>(by cases hi),a,λk e he=>(by cases he)⟩
end Go.Proofs.YtonbfpnngkemiaaGreat
namespace Go.Proofs.YtonbfpnngkemiaaGreat
open Go Go.Fw Go.Js
noncomputable section
abbrev PC:=Int×ByteArray×ByteArray×ByteArray×Bool×Int
def cl(c:PC)(s:Sl):C8:=(c.1,c.2.1,c.2.2.1,c.2.2.2.1,c.2.2.2.2.1,c.2.2.2.2.2,s,())
inductive Tk
  |hot (i:Nat) (v:ByteArray)
  |warm (i:Nat) (past sum:Int)
  |pace (i:Nat)
  |wp (i:Nat) (past rate:Int)
  |brk (i:Nat)
structure Lk where
  b:Bool
  tk:List Tk
  wt:Option Int
def wtV(wt:Int):Option Int->Int
  |none=>wt
  |some w=>Zid wt w
def ZgL(f:Int->Lk):List Int->List Tk×Int->Option Int×List Tk×Int
  |[],x=>(none,x)
  |i::l,x=>if(f i).b=true then(some i,x.1++(f i).tk,wtV x.2 (f i).wt)else ZgL f l (x.1++(f i).tk,wtV x.2 (f i).wt)
def glV(f:Zbt)(o:ByteArray):Bool:=Classical.choose (ZuC f o)
def gsV(r:S5)(n:Int)(w:N7):Bool:=Classical.choose (ZpC r n w)
def ZNz(o:Option Node)(at_:Int):Int:=Classical.choose (ZuE o at_)
def hlV(H:HtS)(at_:Int)(v:ByteArray)(c:Int):Bool:=Classical.choose (ZqS H at_ v c)
def wlV(w:Wm)(at_ past now n:Int):Bool:=Classical.choose (Zuv w at_ past now n)
def wrV(w:Wm)(at_ past:Int):Int:=Classical.choose (Zuu w at_ past)
def plV(p:Pc)(at_ count:Int):Int×Bool×Int:=Classical.choose (Zux p at_ count)
def paV(p:Pc)(at_ count a:Int):Int×Bool×Int:=Classical.choose (Zuy p at_ count a)
def Zrv(G:GS)(c:PC)(i:Int):Lk:=⟨match G.r.li[i.toNat]? with
  |some f=> !glV f c.2.2.2.1
  |none=>false,[],none⟩
def Zmh:K4:=(1,em,em,em,())
def ZGu(G:GS)(c:PC):N7:=((Zsg (G.t.f Zmh) c.1).1,oFl (G.t.f Zmh),ZNz (G.t.f Zmh) c.1,G.ld,G.cp,ZGt (G.t.f Zmh) c.1,(Zsg (G.t.f Zmh) c.1).2.2.2.2.2.1,())
def Zxy(G:GS)(c:PC)(i:Int):Lk:=⟨match G.r.sy[i.toNat]? with
  |some f=> !gsV (Rw.ZpX f) c.2.2.2.2.2 (ZGu G c)
  |none=>false,[],none⟩
def Zos(G:GS)(c:PC)(al:List ByteArray)(i:Int):Lk:=match G.r.ho[i.toNat]?,G.ho[i.toNat]? with
  | some f,some H=>(match al[f.index.toNat]? with
    |some v=>⟨!hlV H c.1 v c.2.2.2.2.2,[.hot i.toNat v],none⟩
    |none=>⟨false,[],none⟩)
  |_,_=>⟨false,[],none⟩
def Zwf(l:P4):K4:=if Yr l.2.2.1 em=false then(5,em,l.1,l.2.2.1,())else if Yr l.2.1 em=false then(3,l.2.1,l.1,em,())else(4,em,l.1,em,())
def ZkK(f:FlowP)(s:ShS)(o:Option Node)(c:PC)(i:Nat):Lk:=
  if f.shape=1 then(match s.2 with
    |some w=>⟨!wlV w c.1 (Ziq o c.1) (Zsg o c.1).1 c.2.2.2.2.2,[.warm i (Ziq o c.1) (Zsg o c.1).1],none⟩
    |none=>⟨false,[],none⟩)
  else if f.shape=2 then(match s.1 with
    |some p=>⟨!(plV p c.1 c.2.2.2.2.2).2.1,[.pace i],some (plV p c.1 c.2.2.2.2.2).1⟩
    |none=>⟨false,[],none⟩)
  else if f.shape=3 then(match s.1,s.2 with
    |some p,some w=>⟨!(paV p c.1 c.2.2.2.2.2 (Zid (wrV w c.1 (Ziq o c.1)) 1)).2.1,[.wp i (Ziq o c.1) (Zid (wrV w c.1 (Ziq o c.1)) 1)],some (paV p c.1 c.2.2.2.2.2 (Zid (wrV w c.1 (Ziq o c.1)) 1)).1⟩
    |_,_=>⟨false,[],none⟩)
  else⟨!ZAx (Rw.ZcW f) (Zsg o c.1).1 (oFl o) c.2.2.2.2.2,[],none⟩
def Zkh(G:GS)(c:PC)(gr:Bool)(i:Int):Lk:=match G.r.fl[i.toNat]?,G.fl[i.toNat]? with
  |some f,some s=>if f.clu=true/\(gr=true\/f.fb=false)then⟨false,[],none⟩else ZkK f s (G.t.f (Zwf (Zbe (Rw.ZcW f) (cl c nl)))) c i.toNat
  |_,_=>⟨false,[],none⟩
def Zot(G:GS)(c:PC)(i:Int):Lk:=match G.br[i.toNat]? with
  |some B=>⟨!Zua B.1.1 c.1,[.brk i.toNat],none⟩
  |none=>⟨false,[],none⟩
def ZE5(G:GS)(c:PC)(x:List Tk×Int):Option Int×List Tk×Int:=if c.2.2.2.2.1=true then ZgL (Zxy G c) (ofK G.r 4 c.2.1) x else(none,x)
def stg(G:GS)(c:PC)(al:List ByteArray)(gr:Bool):Nat->List Tk×Int->Option Int×List Tk×Int
  | 0,x=>ZgL (Zrv G c) (ofK G.r 5 c.2.1) x
  | 1,x=>ZE5 G c x
  | 2,x=>ZgL (Zos G c al) (ofK G.r 3 c.2.1) x
  | 3,x=>ZgL (Zkh G c gr) (Zrp G.r.fl (cl c nl)) x
  |_,x=>ZgL (Zot G c) (ofK G.r 2 c.2.1) x
def Zoq(st:Nat->List Tk×Int->Option Int×List Tk×Int):Nat->Nat->List Tk×Int->Option (Int×Int)×List Tk×Int
  | 0,_,x=>(none,x)
  | n+1,j,x=>match (st j x).1 with
    |some i=>(some (((j+1:Nat):Int),i),(st j x).2)
    |none=>Zoq st n (j+1) (st j x).2
def Znr(G:GS)(c:PC)(al:List ByteArray)(gr:Bool):Option (Int×Int)×List Tk×Int:=Zoq (stg G c al gr) 5 0 ([],0)
def HtS.take(H:HtS)(at_:Int)(v:ByteArray)(c:Int):HtS:=Classical.choose (Classical.choose_spec (Classical.choose_spec (ZuB H at_ v c)))
def Wm.take(w:Wm)(at_ past now n:Int):Wm:=Classical.choose (Classical.choose_spec (Classical.choose_spec (ZqM w at_ past now n)))
def Wm.fill(w:Wm)(at_ past:Int):Wm:=Classical.choose (Classical.choose_spec (Classical.choose_spec (ZmJ w at_ past)))
def Pc.go(p:Pc)(at_ count:Int):Pc:=Classical.choose (ZBT p at_ count)
def Pc.at'(p:Pc)(at_ count a:Int):Pc:=Classical.choose (Classical.choose_spec (Zuy p at_ count a))
def Zc1(c:PC)(x:GS×List Int):Tk->GS×List Int
  | .hot i v=>match x.1.ho[i]? with
    |some H=>({x.1 with ho:=x.1.ho.set i (H.take c.1 v c.2.2.2.2.2)},x.2)
    |none=>x
  | .warm i past sum=>match x.1.fl[i]? with
    |some (p,some w)=>({x.1 with fl:=x.1.fl.set i (p,some (w.take c.1 past sum c.2.2.2.2.2))},x.2)
    |_=>x
  | .pace i=>match x.1.fl[i]? with
    |some (some p,w)=>({x.1 with fl:=x.1.fl.set i (some (p.go c.1 c.2.2.2.2.2),w)},x.2)
    |_=>x
  | .wp i past a=>match x.1.fl[i]? with
    |some (some p,some w)=>({x.1 with fl:=x.1.fl.set i (some (p.at' c.1 c.2.2.2.2.2 a),some (w.fill c.1 past))},x.2)
    |_=>x
  | .brk i=>match x.1.br[i]? with
    |some B=>({x.1 with br:=x.1.br.set i (⟨B.1.1.enter c.1,by have:=B.1.2;unfold BkS.enter;split<;>exact this⟩,B.2)},if Zpe B.1.1 c.1=true then x.2++[B.2]else x.2)
    |none=>x
end
def ZkQ(al:List ByteArray):Bool:=al.any λs=>decide (64<s.size)
def ZfO(G:GS)(c:PC)(al:List ByteArray):Int:=
  if ZgZ (cl c nl)≠0 then ZgZ (cl c nl)else if ¬(0<=c.1/\c.1<=1152921504606846976)then 2 else if ¬(1<=c.2.2.2.2.2/\c.2.2.2.2.2<=1099511627776)then 2 else if 8<al.length then 5 else if ZkQ al=true then 5
  else if c.1<G.la then 7 else if 4096<=G.op then 3 else G.t.touchE (cl c nl)
def GS.mid(G:GS)(c:PC):GS:={G with t:=G.t.touched (cl c nl),la:=c.1}
def GS.blocked(G:GS)(c:PC):GS:={G with t:=G.t.blocked (cl c nl)}
def GS.pass(G:GS)(c:PC)(pr:List Int):GS:={G with t:=G.t.passed (cl c nl),nx:=IntKind.wrap .i64 (G.nx+1),op:=IntKind.wrap .i64 (G.op+1),en:=upd G.en G.nx (some ⟨cl c nl,false,pr⟩)}
abbrev V4:=Int×Int×Int×Unit
noncomputable def ZfS(c:PC)(x:GS×List Int)(l:List Tk):GS×List Int:=l.foldl (Zc1 c) x
noncomputable def GS.enter(G:GS)(c:PC)(al:List ByteArray)(gr:Bool):(Int×V4×Int)×GS:=
  if ZfO G c al≠0 then((0,(0,0,0,()),ZfO G c al),G)else
  match (Znr (G.mid c) c al gr).1 with
  |some (k,i)=>((0,(k,i,0,()),0),(G.mid c).blocked c)
  |none=>(((ZfS c (G.mid c,[]) (Znr (G.mid c) c al gr).2.1).1.nx,(0,0,(Znr (G.mid c) c al gr).2.2,()),0),(ZfS c (G.mid c,[]) (Znr (G.mid c) c al gr).2.1).1.pass c (ZfS c (G.mid c,[]) (Znr (G.mid c) c al gr).2.1).2)
noncomputable def Zel(at_ rt:Int)(failed:Bool)(pr:List Int)(G:GS)(i:Int):GS:=match G.br[i.toNat]? with
  |some B=>{G with br:=G.br.set i.toNat (⟨B.1.1.done B.1.2 at_ rt failed (decide (B.2∈pr)),by rw[Zuh];exact B.1.2⟩,B.2)}
  |none=>G
def Zlm(c:C8)(at_:Int):C8:=(at_,c.2.1,c.2.2.1,c.2.2.2.1,c.2.2.2.2.1,c.2.2.2.2.2.1,nl,())
def zC:C8:=(0,em,em,em,false,0,nl,())
def GS.over(G:GS)(number at_:Int)(failed:Bool)(e:Ent):GS:={G with la:=at_,en:=upd G.en number (some ⟨zC,true,[]⟩),op:=IntKind.wrap .i64 (G.op- 1),t:=G.t.dones (Zlm e.c at_) (IntKind.wrap .i64 (at_-e.c.1)) failed}
noncomputable def GS.exit(G:GS)(number at_:Int)(failed:Bool):Int×GS:=match G.en number with
  |none=>(40,G)
  | some e=>if e.ov=true then(41,G)else if at_<0 then(2,G)else if at_>1152921504606846976 then(2,G)else if at_<G.la then(7,G)else
    (0,(ofK G.r 2 e.c.2.1).foldl (Zel at_ (IntKind.wrap .i64 (at_-e.c.1)) failed e.pr) (G.over number at_ failed e))
theorem GOK.mid{G:GS}{c:PC}(ok:GOK G):GOK (G.mid c):=⟨ok.we,ok.fit,ok.lf,ok.lb,ok.lh,ok.sh,ok.keys,ok.en⟩
theorem GOK.blocked{G:GS}{c:PC}(ok:GOK G):GOK (G.blocked c):=⟨ok.we,ok.fit,ok.lf,ok.lb,ok.lh,ok.sh,ok.keys,ok.en⟩
theorem GOK.en'{G:GS}(ok:GOK G){k:Int}{e:Ent}(he:Zic e.c):∀j a,upd G.en k (some e) j=some a->Zic a.c:=λj a h=>by
  by_cases q:j=k
  ·subst q;rw[Zep]at h;cases h;exact he
  ·rw[Zfd G.en _ q]at h;exact ok.en j a h
theorem GOK.pass{G:GS}{c:PC}{pr:List Int}(ok:GOK G)(hz:Zic (cl c nl)):GOK (G.pass c pr):=⟨ok.we,ok.fit,ok.lf,ok.lb,ok.lh,ok.sh,ok.keys,ok.en' hz⟩
theorem GOK.run1{c:PC}{x:GS×List Int}(ok:GOK x.1)(tk:Tk):GOK (Zc1 c x tk).1:=by
  unfold Zc1;have f1:∀{p:Option Pc} {w w':Wm} (f:FlowP),ZAr f (p,some w)->ZAr f (p,some w'):=λf h=>⟨h.1,λ_ e=>by cases e⟩;have f2:∀{p d:Pc} {w:Option Wm} (f:FlowP),ZAr f (some p,w)->ZAr f (some d,w):=λf h=>⟨λ_ e=>(by cases e),h.2⟩
  cases tk with
  |hot i v=>dsimp only;split;exact ok.setH;exact ok
  | warm i past sum=>
    dsimp only;split
    ·rename_i a;exact ok.setF a f1
    ·exact ok
  | pace i=>
    dsimp only;split
    ·rename_i a;exact ok.setF a f2
    ·exact ok
  | wp i past b=>
    dsimp only;split
    ·rename_i a;exact ok.setF a λf h=>f1 f (f2 f h)
    ·exact ok
  |brk i=>dsimp only;split;exact ok.setB;exact ok
theorem GOK.runs{c:PC}:∀{l:List Tk} {x:GS×List Int},GOK x.1->GOK (ZfS c x l).1
  |[],_,ok=>ok
  |t::l,x,ok=>GOK.runs (l:=l) (ok.run1 t)
theorem GOK.enter{G:GS}{c:PC}{al:List ByteArray}{gr:Bool}(ok:GOK G)(hz:Zic (cl c nl)):GOK (G.enter c al gr).2:=by
  unfold GS.enter;split
  ·exact ok
  ·split
   ·exact ok.mid.blocked
   ·exact(GOK.runs (x:=(G.mid c,[])) ok.mid).pass hz
theorem GOK.done1{at_ rt:Int}{failed:Bool}{pr:List Int}{G:GS}(ok:GOK G)(i:Int):GOK (Zel at_ rt failed pr G i):=by
  unfold Zel;split
  ·exact ok.setB
  ·exact ok
theorem GOK.dones{at_ rt:Int}{failed:Bool}{pr:List Int}:∀{l:List Int} {G:GS},GOK G->GOK (l.foldl (Zel at_ rt failed pr) G)
  |[],_,ok=>ok
  |i::l,G,ok=>GOK.dones (l:=l) (ok.done1 i)
theorem GOK.over{G:GS}{number at_:Int}{failed:Bool}{e:Ent}(ok:GOK G):GOK (G.over number at_ failed e):=⟨ok.we,ok.fit,ok.lf,ok.lb,ok.lh,ok.sh,ok.keys,ok.en' ⟨by decide,by decide,by decide⟩⟩
theorem GOK.exit{G:GS}{number at_:Int}{failed:Bool}(ok:GOK G):GOK (G.exit number at_ failed).2:=by
  unfold GS.exit;split
  ·exact ok
  ·split
   ·exact ok
   ·split
    ·exact ok
    ·split
     ·exact ok
     ·split
      ·exact ok
      ·exact GOK.dones ok.over
theorem Zxv:∀(l:List K4) (t:Tree) (k:K4),(t.f k=none/\k∉l/\(t.makes l).f k=none)\/(t.f k=none/\k∈l/\(t.makes l).f k=some Node.zero)\/∃n,t.f k=some n/\(t.makes l).f k=some n
  | [],t,k=>by
    cases h:t.f k with
    |none=>exact .inl ⟨rfl,by simp,h⟩
    |some n=>exact .inr (.inr ⟨n,rfl,h⟩)
  | x::l,t,k=>by
    have c:=Zxv l (t.make x) k;show _\/(_/\_/\((t.make x).makes l).f k=_)\/∃n,_/\((t.make x).makes l).f k=_
    by_cases e:k=x
    ·subst e
     cases h:t.f k with
     | none=>
       have hm:(t.make k).f k=some Node.zero:=by unfold Tree.make;rw[h];exact if_pos rfl
       rcases c with⟨q,_⟩ |⟨q,_⟩ |⟨n,a,b⟩
       ·rw[hm]at q;cases q
       ·rw[hm]at q;cases q
       ·rw[hm]at a;cases a;exact .inr (.inl ⟨rfl,by simp,b⟩)
     | some n=>
       have hm:(t.make k).f k=some n:=by unfold Tree.make;rw[h];exact h
       rcases c with⟨q,_⟩ |⟨q,_⟩ |⟨g,a,b⟩
       ·rw[hm]at q;cases q
       ·rw[hm]at q;cases q
       ·rw[hm]at a;cases a;exact .inr (.inr ⟨n,rfl,b⟩)
    ·have hm:(t.make x).f k=t.f k:=by
       unfold Tree.make;split
       ·rfl
       ·exact if_neg e
     rw[hm]at c
     rcases c with⟨a,b,d⟩ |⟨a,b,d⟩ |⟨n,a,b⟩
     ·exact .inl ⟨a,by simp[e,b],d⟩
     ·exact .inr (.inl ⟨a,Aws _ b,d⟩)
     ·exact .inr (.inr ⟨n,a,b⟩)
theorem Zo3:∀(l:List K4) (t:Tree),l.Nodup->t.room l->(t.makes l).keys.length<=512/\(t.makes l).last=t.last
  |[],t,_,c=>⟨by show t.keys.length<=512;unfold Tree.room Tree.freshN at c;simpa using c,rfl⟩
  | x::l,t,hd,c=>by
    have d:=Ayn.1 hd;obtain⟨_,e⟩:=Zm7 c d.1;obtain⟨a,b⟩:=Zo3 l (t.make x) d.2 e;refine⟨a,b.trans ?_⟩;unfold Tree.make;split<;>rfl
theorem ZDV{t:Tree}{k:K4}{n:Node}(h:t.f k=some n):t.make k=t:=by unfold Tree.make;rw[h]
theorem ZwW(g:Node->Node):∀(l:List K4) (t:Tree),l.Nodup->(∀k∈l,∃n,t.f k=some n)->(t.steps g l).keys=t.keys/\∀k,(k∈l->(t.steps g l).f k=(t.f k).map g)/\(k∉l->(t.steps g l).f k=t.f k)
  |[],t,_,_=>⟨rfl,λk=>⟨λh=>absurd h (by simp),λ_=>rfl⟩⟩
  | x::l,t,hd,o=>by
    have d:=Ayn.1 hd;obtain⟨n,j⟩:=o x (List.mem_cons_self ..);have p:(t.make x).on x g=t.put x (g n):=by rw[ZDV j];unfold Tree.on;rw[j]
    have i:∀k,(t.put x (g n)).f k=if k=x then some (g n)else t.f k:=λk=>rfl
    obtain ⟨a,b⟩:=ZwW g l (t.put x (g n)) d.2 λk c=>by
      obtain⟨q,m⟩:=o k (Aws _ c);rw[i]
      by_cases e:k=x
      ·exact⟨_,if_pos e⟩
      ·exact⟨q,(if_neg e).trans m⟩
    show(Tree.steps g l ((t.make x).on x g)).keys=_/\∀k,(k∈x::l->(Tree.steps g l ((t.make x).on x g)).f k=_)/\(k∉x::l->(Tree.steps g l ((t.make x).on x g)).f k=_);rw[p];refine⟨a,λk=>⟨λc=>?_,λc=>?_⟩⟩
    ·by_cases e:k=x
     ·subst e;rw[(b k).2 d.1,i,if_pos rfl,j];rfl
     ·have:k∈l:=by
        rcases Awr.1 c with h|h
        ·exact absurd h e
        ·exact h
      rw[(b k).1 this,i,if_neg e]
    ·have h1:k≠x:=λe=>c (by rw[e];exact List.mem_cons_self ..);have m:k∉l:=λh=>c (Aws _ h);rw[(b k).2 m,i,if_neg h1]
theorem Zn4{t:Tree}:∀{l:List K4},(∀k∈l,∃n,t.f k=some n)->t.freshN l=0
  |[],_=>rfl
  | k::l,h=>by
    obtain⟨n,a⟩:=h k (List.mem_cons_self ..);rw[Zpk,Zn4 λj b=>h j (Aws _ b)];have:t.isNew k=false:=by unfold Tree.isNew;rw[a];rfl
    rw[this];rfl
abbrev Ops:=List (Int×C8)
instance memK(k:K4)(l:List K4):Decidable (k∈l):=@List.instDecidableMemOfLawfulBEq K4 instBEqOfDecidableEq inferInstance k l
def Zjf:Ops->K4->Nat
  |[],_=>0
  |p::l,k=>(if k∈ZI p.2 then 1 else 0)+Zjf l k
theorem Zhy(k:K4):∀a b:Ops,Zjf (a++b) k=Zjf a k+Zjf b k
  |[],b=>by simp[Zjf]
  |p::a,b=>by show _+Zjf (a++b) k=_+Zjf a k+_;rw[Zhy k a b];omega
theorem ZnW(k:K4):∀a:Ops,Zjf a k<=a.length
  |[]=>Aqo _
  |p::a=>by have:=ZnW k a;show(if _ then 1 else 0)+Zjf a k<=a.length+1;split<;>omega
theorem ZrV{k:K4}:∀{a:Ops},(∀p∈a,k∉ZI p.2)->Zjf a k=0
  |[],_=>rfl
  | p::a,h=>by
    show(if _ then 1 else 0)+Zjf a k=0;rw[if_neg (h p (List.mem_cons_self ..)),ZrV λq b=>h q (Aws _ b)]
theorem Zuk{k:K4}{p:Int×C8}{a:Ops}(b:p∈a)(c:k∈ZI p.2):1<=Zjf a k:=by obtain⟨x,y,rfl⟩:=List.append_of_mem b;rw[Zhy];show 1<=Zjf x k+((if k∈ZI p.2 then 1 else 0)+Zjf y k);rw[if_pos c];omega
theorem ZD2(c:C8)(t:Int):ZI (Zlm c t)=ZI c:=rfl
theorem ZAO(c:C8)(t:Int):ZgZ (Zlm c t)=ZgZ c:=rfl
theorem ZGo(g:Node->Node):∀(l:List K4) (t:Tree),l.Nodup->(Tree.ons g l t).keys=t.keys/\∀k,(k∈l->(Tree.ons g l t).f k=(t.f k).map g)/\(k∉l->(Tree.ons g l t).f k=t.f k)
  |[],t,_=>⟨rfl,λk=>⟨λh=>absurd h (by simp),λ_=>rfl⟩⟩
  | x::l,t,hd=>by
    have c:=Ayn.1 hd
    have i:∀k,(t.on x g).f k=if k=x then(t.f x).map g else t.f k:=λk=>by
      unfold Tree.on
      cases h:t.f x with
      | none=>
        show t.f k=_
        by_cases e:k=x
        ·rw[if_pos e,e,h];rfl
        ·rw[if_neg e]
      |some n=>rfl
    obtain⟨a,b⟩:=ZGo g l (t.on x g) c.2;refine⟨a.trans (Zxo ..),λk=>⟨λd=>?_,λd=>?_⟩⟩
    ·by_cases e:k=x
     ·subst e;exact((b k).2 c.1).trans ((i k).trans (if_pos rfl))
     ·have:k∈l:=by
        rcases Awr.1 d with h|h
        ·exact absurd h e
        ·exact h
      refine((b k).1 this).trans ?_;rw[i,if_neg e]
    ·have h1:k≠x:=λe=>d (by rw[e];exact List.mem_cons_self ..);have j:k∉l:=λh=>d (Aws _ h);exact((b k).2 j).trans ((i k).trans (if_neg h1))
def kc(r:ByteArray):K4:=(4,em,r,em,())
theorem Zjx{r:ByteArray}{c:C8}:kc r∈ZI c↔r=c.2.1:=by
  unfold ZI Zvx ZE6 kc;constructor
  ·intro h;split at h<;>split at h<;>simp at h<;>exact h
  ·intro h;rw[<-h];simp
theorem ZOt{t:Int}(h0:0<=t)(h1:t<=99):bkt .sec t=0:=by show t / 100000=0;omega
theorem ZEP{n:Node}{x:C6}{at_:Int}(h0:0<=at_)(h1:at_<=99):(n.add at_ x).s 0=ZfQ (n.s 0) x:=by show(if(0:Int)=bkt .sec at_ then ZfQ (n.s 0) x else n.s 0)=_;rw[ZOt h0 h1,if_pos rfl]
theorem ZEQ{n:Node}(a:∀i,Rt (n.s i)){x:C6}(b:Rt x){at_:Int}:∀i,Rt ((n.add at_ x).s i):=λi=>by
  show Rt (if i=bkt .sec at_ then ZfQ (n.s i) x else n.s i);split
  ·exact(a i).two b
  ·exact a i
theorem ZgH{a b:Int}(c:0<=a/\a<=1000000000000000)(d:0<=b/\b<=1099511627776):Zff a b=a+b:=by rw[Zcj (by omega) (by omega)];omega
theorem ZQ8{n:Node}(c:∀i,Rt (n.s i)){at_:Int}(h0:0<=at_)(h1:at_<=99)(hl:n.last<=at_):n.sum at_=ZfQ z6 (n.s 0):=by
  unfold Node.sum;have hw:ZO n.last at_=0:=by unfold ZO;rw[if_neg (by omega),if_neg (by omega),if_neg (by omega)]
  rw[if_pos hw];unfold Win.sum;have b:=ZOt h0 h1
  have a:loW .sec at_=0:=by
    unfold loW;rw[b];show max 0 (0-((10:Int)- 1))=0;omega
  rw[a,b,ZjW _ (by omega),ZpY]
def Zi4(P:ByteArray->Int)(r:ByteArray)(d:Int):ByteArray->Int:=λs=>if s=r then P s+d else P s
structure TE(G:GS)(m:Nat)(P B:ByteArray->Int)(op:Ops):Prop where
  keys:G.t.keys.length<=512
  tl:G.t.last<=G.la
  la:0<=G.la
  nodes:∀k n,G.t.f k=some n->n.last<=G.la/\(∀i,Rt (n.s i))/\n.fl=Zjf op k
  fl:G.op=op.length
  len:op.length<=m
  nx:1<=G.nx/\G.nx<=m+1
  nd:(op.map (·.1)).Nodup
  ent:∀p∈op,∃pr,G.en p.1=some ⟨p.2,false,pr⟩
  out:∀j e,G.en j=some e->e.ov=false->(j,e.c)∈op
  new:∀j,G.nx<=j->G.en j=none
  ok:∀p∈op,ZgZ p.2=0/\0<=p.2.1/\p.2.1<=G.la
  has:∀p∈op,∀k∈ZI p.2,∃n,G.t.f k=some n
  cs:∀r n,G.t.f (kc r)=some n->(n.s 0).1=P r/\(n.s 0).2.1=B r
  cn:∀r,G.t.f (kc r)=none->P r=0/\B r=0
  bd:∀r,0<=P r/\P r<=1099511627776*m/\0<=B r/\B r<=1099511627776*m
section
variable{G:GS}{m:Nat}{P B:ByteArray->Int}{op:Ops}{c:PC}
theorem TE.none(h:TE G m P B op){k:K4}(b:G.t.f k=none):Zjf op k=0:=ZrV λp c hm=>by
  obtain⟨n,a⟩:=h.has p c k hm;rw[b]at a;cases a
structure ZqT(G:GS)(c:PC):Prop where
  k:ZgZ (cl c nl)=0
  at_:0<=c.1/\c.1<=1152921504606846976
  cnt:1<=c.2.2.2.2.2/\c.2.2.2.2.2<=1099511627776
  la:G.la<=c.1
  room:G.t.room (ZI (cl c nl))
theorem ZNN{al:List ByteArray}(h:ZfO G c al=0):ZqT G c:=by
  unfold ZfO at h
  by_cases b:ZgZ (cl c nl)=0
  case neg=>rw[if_pos b]at h;exact absurd h b
  rw[if_neg (λa=>a b)]at h
  by_cases d:0<=c.1/\c.1<=1152921504606846976
  case neg=>rw[if_pos d]at h;cases h
  rw[if_neg (λa=>a d)]at h
  by_cases e:1<=c.2.2.2.2.2/\c.2.2.2.2.2<=1099511627776
  case neg=>rw[if_pos e]at h;cases h
  rw[if_neg (λa=>a e)]at h
  by_cases f:8<al.length
  ·rw[if_pos f]at h;cases h
  rw[if_neg f]at h
  by_cases g:ZkQ al=true
  ·rw[if_pos g]at h;cases h
  rw[if_neg g]at h
  by_cases i:c.1<G.la
  ·rw[if_pos i]at h;cases h
  rw[if_neg i]at h
  by_cases j:4096<=G.op
  ·rw[if_pos j]at h;cases h
  rw[if_neg j]at h;unfold Tree.touchE at h;rw[if_neg (λa=>a b)]at h
  by_cases k:G.t.room (ZI (cl c nl))
  case neg=>rw[if_pos k]at h;cases h
  exact⟨b,d,e,by omega,k⟩
theorem ZRc(b:ZqT G c):(G.mid c).t=G.t.makes (ZI (cl c nl)):=by
  have:G.t.touchE (cl c nl)=0:=by unfold Tree.touchE;rw[if_neg (λa=>a b.k),if_neg (λa=>a b.room)]
  show G.t.touched (cl c nl)=_;unfold Tree.touched;rw[if_pos this]
theorem ZGy(h:TE G m P B op)(j:ZqT G c):TE (G.mid c) m P B op/\∀k∈ZI (cl c nl),∃n,(G.mid c).t.f k=some n:=by
  have e:=ZRc j;have l:=Zo3 (ZI (cl c nl)) G.t (Zfh _) j.room;have v:=j.la;have h0:=h.la;have w:=h.tl;have M:=Zxv (ZI (cl c nl)) G.t;refine⟨⟨by rw[e];exact l.1,by rw[e,l.2];exact Int.le_trans h.tl j.la,j.at_.1,λk n d=>?_,h.fl,h.len,h.nx,h.nd,h.ent,h.out,h.new,λp s=>?_,λp s k u=>?_,λr n d=>?_,λr d=>?_,h.bd⟩,λk l=>?_⟩
  ·rw [e]at d
   rcases M k with⟨_,_,q⟩ |⟨g,_,q⟩ |⟨o,g,i⟩
   ·rw[q]at d;cases d
   ·rw[q]at d;cases d;exact⟨j.at_.1,λ_=>Rt.zero,by rw[h.none g];rfl⟩
   ·rw[i]at d;cases d;obtain⟨x,y,a3⟩:=h.nodes k n g;exact⟨Int.le_trans x j.la,y,a3⟩
  ·obtain⟨z,A,C⟩:=h.ok p s;exact⟨z,A,Int.le_trans C j.la⟩
  ·obtain ⟨n,d⟩:=h.has p s k u;rw[e]
   rcases M k with⟨g,_,_⟩ |⟨g,_,_⟩ |⟨o,g,i⟩
   ·rw[g]at d;cases d
   ·rw[g]at d;cases d
   ·exact⟨_,i⟩
  ·rw [e]at d
   rcases M (kc r)with⟨_,_,q⟩ |⟨g,_,q⟩ |⟨o,g,i⟩
   ·rw[q]at d;cases d
   ·rw[q]at d;cases d;obtain⟨a,b⟩:=h.cn r g;rw[a,b];exact⟨rfl,rfl⟩
   ·rw[i]at d;cases d;exact h.cs r n g
  ·rw [e]at d
   rcases M (kc r)with⟨g,_,q⟩ |⟨g,_,q⟩ |⟨o,g,i⟩
   ·exact h.cn r g
   ·rw[q]at d;cases d
   ·rw[i]at d;cases d
  ·rw [e]
   rcases M k with⟨_,q,_⟩ |⟨_,_,q⟩ |⟨o,g,i⟩
   ·exact absurd l q
   ·exact⟨_,q⟩
   ·exact⟨_,i⟩
theorem Zt1(h:TE G m P B op)(hm:m<=100)(r:G.la=c.1)(e:ZqT G c)(i:∀k∈ZI (cl c nl),∃n,G.t.f k=some n)(full:Bool)(g:Node->Node):
    (G.t.noted (cl c nl) full g).keys=G.t.keys/\(G.t.noted (cl c nl) full g).last=c.1/\∀k,(k∈ZI (cl c nl)->(G.t.noted (cl c nl) full g).f k=(G.t.f k).map g)/\(k∉ZI (cl c nl)->(G.t.noted (cl c nl) full g).f k=G.t.f k):=by
  have s:G.t.room (ZI (cl c nl)):=by unfold Tree.room;rw[Zn4 i];exact h.keys
  have j:¬(full=true/\(ZI (cl c nl)).any G.t.full=true):=λd=>by
    obtain⟨k,l,o⟩:=List.any_eq_true.1 d.2;obtain⟨n,q⟩:=i k l;unfold Tree.full at o;rw[q]at o;have h1:=(h.nodes k n q).2.2;have u:=ZnW k op;have h3:=h.len;simp at o;omega
  have p:¬(cl c nl).1<G.t.last:=by have:=h.tl;show ¬c.1<_;omega
  have hz:G.t.noteE (cl c nl) full=0:=by
    unfold Tree.noteE;rw[if_neg (λd=>d e.k),if_neg (λd=>d e.at_),if_neg (λd=>d e.cnt),if_neg p,if_neg (λd=>d s),if_neg j]
  unfold Tree.noted;rw[if_pos hz];obtain⟨a,b⟩:=ZwW g (ZI (cl c nl)) G.t (Zfh _) i;exact⟨a,rfl,b⟩
theorem Zrr{n:Node}(a:ZqT G c)(b:n.last<=c.1):X0 n.last c.1 c.2.2.2.2.2=0:=by have h1:=a.at_;have d:=a.cnt;unfold X0;rw[if_neg (by omega),if_neg (by omega),if_neg (by omega)]
theorem Zut{P:ByteArray->Int}(h:∀r,0<=P r/\P r<=1099511627776*(m:Int)){d:Int}(hd:1<=d/\d<=1099511627776)(s r:ByteArray):0<=Zi4 P s d r/\Zi4 P s d r<=1099511627776*((m+1:Nat):Int):=by have:=h r;unfold Zi4;split<;>omega
theorem ZA8(h:TE G m P B op)(hm:m<100)(s:G.la=c.1)(l:ZqT G c)(u:c.1<=99)(o:∀k∈ZI (cl c nl),∃n,G.t.f k=some n):
    TE (G.blocked c) (m+1) P (Zi4 B c.2.1 c.2.2.2.2.2) op/\∃n,(G.blocked c).t.f (kc c.2.1)=some n:=by
  obtain⟨a,b,d⟩:=Zt1 h (by omega) s l o false λn=>n.blocked c.1 c.2.2.2.2.2;have hT:(G.blocked c).t=G.t.noted (cl c nl) false λn=>n.blocked c.1 c.2.2.2.2.2:=rfl;have z:∀n:Node,n.last<=c.1->n.blocked c.1 c.2.2.2.2.2=n.add c.1 (Zkk c.2.2.2.2.2):=λn e=>by unfold Node.blocked;rw[if_pos (Zrr l e)]
  have g:kc c.2.1∈ZI (cl c nl):=Zjx.2 rfl;have j:=h.bd;have A:=l.cnt;refine⟨⟨by rw[hT,a];exact h.keys,by rw[hT,b];show c.1<=G.la;omega,h.la,λk n e=>?_,h.fl,by have:=h.len;omega,by have:=h.nx;show 1<=G.nx/\G.nx<=((m+1:Nat):Int)+1;omega,h.nd,h.ent,h.out,h.new,h.ok,λp E k v=>?_,λr n e=>?_,λr e=>?_,λr=>?_⟩,?_⟩
  ·rw [hT]at e
   by_cases q:k∈ZI (cl c nl)
   ·obtain⟨i,h0⟩:=o k q;rw[(d k).1 q,h0]at e;cases e;obtain⟨F,C,D⟩:=h.nodes k i h0;dsimp only;rw[z i (by omega)];exact⟨by show c.1<=G.la;omega,ZEQ C (Rt.block l.cnt),D⟩
   ·rw[(d k).2 q]at e;exact h.nodes k n e
  ·obtain ⟨n,e⟩:=h.has p E k v;rw[hT]
   by_cases q:k∈ZI (cl c nl)
   ·exact⟨_,by rw[(d k).1 q,e];rfl⟩
   ·exact⟨n,by rw[(d k).2 q,e]⟩
  ·rw [hT]at e
   by_cases q:r=c.2.1
   ·subst q;obtain⟨i,h0⟩:=o _ g;rw[(d _).1 g,h0]at e;cases e;obtain⟨F,C,D⟩:=h.nodes _ i h0;obtain⟨H,I⟩:=h.cs _ i h0;have:=j c.2.1;dsimp only;rw[z i (by omega),ZEP l.at_.1 u];show Zff _ 0=_/\Zff _ c.2.2.2.2.2=_;rw[H,I,ZgH (by omega) (by omega),ZgH (by omega) (by omega)];unfold Zi4;rw[if_pos rfl];exact⟨by omega,rfl⟩
   ·have w:kc r∉ZI (cl c nl):=λy=>q (Zjx.1 y);rw[(d _).2 w]at e;unfold Zi4;rw[if_neg q];exact h.cs r n e
  ·rw [hT]at e
   by_cases q:r=c.2.1
   ·subst q;obtain⟨i,h0⟩:=o _ g;rw[(d _).1 g,h0]at e;cases e
   ·have w:kc r∉ZI (cl c nl):=λy=>q (Zjx.1 y);rw[(d _).2 w]at e;unfold Zi4;rw[if_neg q];exact h.cn r e
  ·have x:=j r;have:=Zut (m:=m) (P:=B) (λr=>(j r).2.2) l.cnt c.2.1 r;exact⟨x.1,by omega,this⟩
  ·obtain⟨i,h0⟩:=o _ g;exact⟨_,by rw[hT,(d _).1 g,h0];rfl⟩
theorem ZDI(h:TE G m P B op)(hm:m<100)(E:G.la=c.1)(v:ZqT G c)(F:c.1<=99)(z:∀k∈ZI (cl c nl),∃n,G.t.f k=some n)(pr:List Int):
    TE (G.pass c pr) (m+1) (Zi4 P c.2.1 c.2.2.2.2.2) B (op++[(G.nx,cl c nl)])/\∃n,(G.pass c pr).t.f (kc c.2.1)=some n:=by
  obtain⟨a,b,d⟩:=Zt1 h (by omega) E v z true λn=>n.passed c.1 c.2.2.2.2.2;have hT:(G.pass c pr).t=G.t.noted (cl c nl) true λn=>n.passed c.1 c.2.2.2.2.2:=rfl;have T:=h.nx;have hlen:=h.len;have U:=h.fl
  have M:∀k n,G.t.f k=some n->Zxg n c.1 c.2.2.2.2.2=0:=λk n i=>by
    obtain⟨N,H,O⟩:=h.nodes k n i;have:=ZnW k op;unfold Zxg;rw[if_pos (Zrr v (by omega)),if_neg (by omega)]
  have V:IntKind.wrap .i64 (G.op+1)=G.op+1:=Yj (by omega) (by omega);have Q:IntKind.wrap .i64 (G.nx+1)=G.nx+1:=Yj (by omega) (by omega);have I:∀k,Zjf (op++[(G.nx,cl c nl)]) k=Zjf op k+(if k∈ZI (cl c nl)then 1 else 0):=λk=>by rw[Zhy];rfl
  have A:∀p∈op,p.1≠G.nx:=λp g D=>by
    obtain⟨pr,h1⟩:=h.ent p g;rw[h.new p.1 (by omega)]at h1;cases h1
  have l:kc c.2.1∈ZI (cl c nl):=Zjx.2 rfl;have w:=h.bd;have R:=v.cnt;have W:=v.at_;refine⟨⟨by rw[hT,a];exact h.keys,by rw[hT,b];show c.1<=G.la;omega,h.la,λk n i=>?_,?_,by rw[Awe];show op.length+1<=_;omega,?_,?_,λp g=>?_,λj e J ho=>?_,λj J=>?_,λp g=>?_,λp g k C=>?_,λr n i=>?_,λr i=>?_,λr=>?_⟩,?_⟩
  ·rw [hT]at i;rw[I]
   by_cases q:k∈ZI (cl c nl)
   ·obtain⟨u,h0⟩:=z k q;rw[(d k).1 q,h0]at i;cases i;obtain⟨N,H,O⟩:=h.nodes k u h0;dsimp only;unfold Node.passed;rw[if_pos (M k u h0),if_pos q];exact⟨by show c.1<=G.la;omega,ZEQ H (Rt.pass v.cnt),by show u.fl+1=_;omega⟩
   ·rw[(d k).2 q]at i;rw[if_neg q];exact h.nodes k n i
  ·show IntKind.wrap .i64 (G.op+1)=_;rw[V,Awe,h.fl];rfl
  ·show 1<=IntKind.wrap .i64 (G.nx+1)/\IntKind.wrap .i64 (G.nx+1)<=_;rw[Q];omega
  ·rw[Ayu,List.nodup_append];refine⟨h.nd,by simp,λx K y S=>?_⟩;obtain⟨p,g,rfl⟩:=Ayv.1 K;simp at S;subst S;exact A p g
  ·show ∃X,upd G.en G.nx (some ⟨cl c nl,false,pr⟩) p.1=_
   rcases Axx.1 g with g|g
   ·rw[Zfd _ _ (A p g)];exact h.ent p g
   ·simp at g;subst g;exact⟨pr,Zep ..⟩
  ·have o:upd G.en G.nx (some ⟨cl c nl,false,pr⟩) j=some e:=J
   by_cases q:j=G.nx
   ·subst q;rw[Zep]at o;cases o;simp
   ·rw[Zfd _ _ q]at o;exact List.mem_append_left _ (h.out j e o ho)
  ·have o:IntKind.wrap .i64 (G.nx+1)<=j:=J;rw[Q]at o;show upd G.en G.nx (some ⟨cl c nl,false,pr⟩) j=none;rw[Zfd _ _ (by omega)];exact h.new j (by omega)
  ·rcases Axx.1 g with g|g
   ·exact h.ok p g
   ·simp at g;subst g;exact⟨v.k,v.at_.1,by show c.1<=G.la;omega⟩
  ·rw [hT]
   have K:∃n,G.t.f k=some n:=by
     rcases Axx.1 g with g|g
     ·exact h.has p g k C
     ·simp at g;subst g;exact z k C
   obtain⟨n,i⟩:=K
   by_cases q:k∈ZI (cl c nl)
   ·exact⟨_,by rw[(d k).1 q,i];rfl⟩
   ·exact⟨n,by rw[(d k).2 q,i]⟩
  ·rw [hT]at i
   by_cases q:r=c.2.1
   ·subst q;obtain⟨u,h0⟩:=z _ l;rw[(d _).1 l,h0]at i;cases i;obtain⟨N,H,O⟩:=h.nodes _ u h0;obtain⟨Y,Z⟩:=h.cs _ u h0;have:=w c.2.1;dsimp only;unfold Node.passed;rw[if_pos (M _ u h0)];show((u.add c.1 (Zmx c.2.2.2.2.2)).s 0).1=_/\((u.add c.1 (Zmx c.2.2.2.2.2)).s 0).2.1=_;rw[ZEP v.at_.1 F];show Zff _ c.2.2.2.2.2=_/\Zff _ 0=_;rw[Y,Z,ZgH (by omega) (by omega),ZgH (by omega) (by omega)];unfold Zi4;rw[if_pos rfl];exact⟨rfl,by omega⟩
   ·have L:kc r∉ZI (cl c nl):=λD=>q (Zjx.1 D);rw[(d _).2 L]at i;unfold Zi4;rw[if_neg q];exact h.cs r n i
  ·rw [hT]at i
   by_cases q:r=c.2.1
   ·subst q;obtain⟨u,h0⟩:=z _ l;rw[(d _).1 l,h0]at i;cases i
   ·have L:kc r∉ZI (cl c nl):=λD=>q (Zjx.1 D);rw[(d _).2 L]at i;unfold Zi4;rw[if_neg q];exact h.cn r i
  ·have x:=w r;have:=Zut (m:=m) (P:=P) (λr=>⟨(w r).1,(w r).2.1⟩) v.cnt c.2.1 r;exact⟨this.1,this.2,by omega,by omega⟩
  ·obtain⟨u,h0⟩:=z _ l;exact⟨_,by rw[hT,(d _).1 l,h0];rfl⟩
end
theorem ZDC(c:PC)(x:GS×List Int)(tk:Tk):(Zc1 c x tk).1.t=x.1.t/\(Zc1 c x tk).1.la=x.1.la/\(Zc1 c x tk).1.en=x.1.en/\(Zc1 c x tk).1.op=x.1.op/\(Zc1 c x tk).1.nx=x.1.nx:=by unfold Zc1;cases tk<;>dsimp only<;>split<;>exact⟨rfl,rfl,rfl,rfl,rfl⟩
theorem ZtS(c:PC):∀(l:List Tk) (x:GS×List Int),(ZfS c x l).1.t=x.1.t/\(ZfS c x l).1.la=x.1.la/\(ZfS c x l).1.en=x.1.en/\(ZfS c x l).1.op=x.1.op/\(ZfS c x l).1.nx=x.1.nx
  |[],x=>⟨rfl,rfl,rfl,rfl,rfl⟩
  | tk::l,x=>by
    obtain⟨a,b,a3,a4,a5⟩:=ZDC c x tk;obtain⟨b1,b2,d,b4,e⟩:=ZtS c l (Zc1 c x tk);exact⟨b1.trans a,b2.trans b,d.trans a3,b4.trans a4,e.trans a5⟩
theorem TE.same{G a:GS}{m:Nat}{P B:ByteArray->Int}{op:Ops}(h:TE G m P B op)(e:a.t=G.t/\a.la=G.la/\a.en=G.en/\a.op=G.op/\a.nx=G.nx):TE a m P B op:=by obtain⟨b,c,d,f,g⟩:=e;cases G;cases a;dsimp only at b c d f g;subst b;subst c;subst d;subst f;subst g;exact⟨h.keys,h.tl,h.la,h.nodes,h.fl,h.len,h.nx,h.nd,h.ent,h.out,h.new,h.ok,h.has,h.cs,h.cn,h.bd⟩
theorem Zrs{st:Nat->List Tk×Int->Option Int×List Tk×Int}:∀{n j:Nat} {x:List Tk×Int} {p:Int×Int},(Zoq st n j x).1=some p->1<=p.1
  | 0,j,x,p,h=>by cases h
  | n+1,j,x,p,h=>by
    unfold Zoq at h;split at h
    ·cases h;show 1<=((j+1:Nat):Int);omega
    ·exact Zrs h
theorem ZA0{G:GS}{m:Nat}{P B:ByteArray->Int}{op:Ops}{c:PC}(h:TE G m P B op)(hm:m<100)(b:c.1<=99)(al:List ByteArray)(gr:Bool):
    ((G.enter c al gr).1.2.2≠0/\(G.enter c al gr).2=G)\/
    (1<=c.2.2.2.2.2/\c.2.2.2.2.2<=1099511627776/\(G.enter c al gr).1.2.2=0/\(∃n,(G.enter c al gr).2.t.f (kc c.2.1)=some n)/\(G.enter c al gr).2.la=c.1/\
      (((G.enter c al gr).1.2.1.1≠0/\TE (G.enter c al gr).2 (m+1) P (Zi4 B c.2.1 c.2.2.2.2.2) op)\/
       ((G.enter c al gr).1.2.1.1=0/\(G.enter c al gr).1.1=G.nx/\TE (G.enter c al gr).2 (m+1) (Zi4 P c.2.1 c.2.2.2.2.2) B (op++[(G.nx,cl c nl)])))):=by
  unfold GS.enter
  by_cases q:ZfO G c al=0
  case neg=>rw[if_pos q];exact .inl ⟨q,rfl⟩
  rw[if_neg (λv=>v q)];have a:=ZNN q;obtain⟨j,l⟩:=ZGy h a;have d:ZqT (G.mid c) c:=⟨a.k,a.at_,a.cnt,Int.le_refl _,by unfold Tree.room;rw[Zn4 l];exact j.keys⟩;refine .inr ⟨a.cnt.1,a.cnt.2,?_⟩;split
  ·rename_i k i hl;obtain⟨w,o⟩:=ZA8 j hm rfl d b l;have:=Zrs hl;exact⟨rfl,o,rfl,.inl ⟨by show k≠0;have:1<=k:=this;omega,w⟩⟩
  ·have e:=ZtS c (Znr (G.mid c) c al gr).2.1 (G.mid c,[])
   generalize ZfS c (G.mid c,[]) (Znr (G.mid c) c al gr).2.1=y at e⊢;obtain⟨Y,pr⟩:=y;dsimp only at e⊢;have x:=j.same e;have p:∀k∈ZI (cl c nl),∃n,Y.t.f k=some n:=λk r=>by rw[e.1];exact l k r
   have s:ZqT Y c:=⟨a.k,a.at_,a.cnt,by rw[e.2.1];exact Int.le_refl _,by rw[e.1];exact d.room⟩;obtain⟨u,o⟩:=ZDI x hm e.2.1 s b p pr;have g:Y.nx=G.nx:=e.2.2.2.2;rw[g]at u;exact⟨rfl,o,e.2.1,.inr ⟨rfl,g,u⟩⟩
theorem ZA1(at_ rt:Int)(f:Bool)(pr:List Int)(G:GS)(i:Int):(Zel at_ rt f pr G i).t=G.t/\(Zel at_ rt f pr G i).la=G.la/\(Zel at_ rt f pr G i).en=G.en/\(Zel at_ rt f pr G i).op=G.op/\(Zel at_ rt f pr G i).nx=G.nx:=by unfold Zel;split<;>exact⟨rfl,rfl,rfl,rfl,rfl⟩
theorem ZrP(at_ rt:Int)(f:Bool)(pr:List Int):∀(l:List Int) (G:GS),(l.foldl (Zel at_ rt f pr) G).t=G.t/\(l.foldl (Zel at_ rt f pr) G).la=G.la/\(l.foldl (Zel at_ rt f pr) G).en=G.en/\(l.foldl (Zel at_ rt f pr) G).op=G.op/\(l.foldl (Zel at_ rt f pr) G).nx=G.nx
  |[],G=>⟨rfl,rfl,rfl,rfl,rfl⟩
  | i::l,G=>by
    obtain⟨a,b,a3,a4,a5⟩:=ZA1 at_ rt f pr G i;obtain⟨b1,b2,c,b4,d⟩:=ZrP at_ rt f pr l (Zel at_ rt f pr G i);exact⟨b1.trans a,b2.trans b,c.trans a3,b4.trans a4,d.trans a5⟩
theorem ZEy{G:GS}{m:Nat}{P B:ByteArray->Int}{op:Ops}(h:TE G m P B op)(hm:m<=100){number at_:Int}(W:at_<=99)(failed:Bool):
    ((G.exit number at_ failed).1≠0/\(G.exit number at_ failed).2=G)\/((G.exit number at_ failed).1=0/\∃a c b,op=a++(number,c)::b/\TE (G.exit number at_ failed).2 m P B (a++b)/\(G.exit number at_ failed).2.la=at_/\
      ∀k,(∃n,G.t.f k=some n)->∃n,(G.exit number at_ failed).2.t.f k=some n):=by
  unfold GS.exit;split
  ·exact .inl ⟨(show(40:Int)≠0 by decide),rfl⟩
  rename_i e L
  by_cases K:e.ov=true
  ·rw[if_pos K];exact .inl ⟨(show(41:Int)≠0 by decide),rfl⟩
  by_cases T:at_<0
  ·rw[if_neg K,if_pos T];exact .inl ⟨(show(2:Int)≠0 by decide),rfl⟩
  by_cases X:at_>1152921504606846976
  ·rw[if_neg K,if_neg T,if_pos X];exact .inl ⟨(show(2:Int)≠0 by decide),rfl⟩
  by_cases q4:at_<G.la
  ·rw[if_neg K,if_neg T,if_neg X,if_pos q4];exact .inl ⟨(show(7:Int)≠0 by decide),rfl⟩
  rw[if_neg K,if_neg T,if_neg X,if_neg q4];have o:=h.out number e L (by simpa using K);obtain⟨d,he⟩:∃d,d=e.c:=⟨_,rfl⟩;rw[<-he]at o;obtain⟨a,b,Y⟩:=List.append_of_mem o;subst Y;have E:=ZrP at_ (IntKind.wrap .i64 (at_-e.c.1)) failed e.pr (ofK G.r 2 e.c.2.1) (G.over number at_ failed e);refine .inr ⟨rfl,a,d,b,rfl,?_⟩
  suffices H:TE (G.over number at_ failed e) m P B (a++b)/\∀k,(∃n,G.t.f k=some n)->∃n,(G.over number at_ failed e).t.f k=some n by
    exact⟨H.1.same E,E.2.1,λk g=>by rw[E.1];exact H.2 k g⟩
  obtain⟨M,Z,aa⟩:=h.ok _ o;dsimp only at M Z aa;have hlen:=h.len;have ae:=h.fl;rw[Awe,Aqj]at hlen ae;have ax:=h.la;have af:IntKind.wrap .i64 (at_-d.1)=at_-d.1:=Yj (by omega) (by omega);have I:0<=at_-d.1/\at_-d.1<=1152921504606846976:=by omega
  have N:IntKind.wrap .i64 (G.op- 1)=(a++b).length:=by rw[Yj (by omega) (by omega),Awe];omega
  have O:∀k∈ZI d,∃n,G.t.f k=some n/\n.fl≠0:=λk g=>by
    obtain⟨n,u⟩:=h.has _ o k g;refine⟨n,u,?_⟩;have h1:=(h.nodes k n u).2.2;have h2:=Zuk o g;omega
  have ah:G.t.doneE (Zlm d at_) (at_-d.1)=0:=by
    unfold Tree.doneE;have e1:ZgZ (Zlm d at_)=0:=by rw[ZAO];exact M
    have e2:(Zlm d at_).1=at_:=rfl
    have e3:(ZI (Zlm d at_)).any G.t.idle=false:=by
      rw[ZD2,List.any_eq_false];intro k g;obtain⟨n,u,hz⟩:=O k g;unfold Tree.idle;rw[u];simpa using hz
    have aD:=h.tl;rw[e1,e2,e3,if_neg (by decide),if_neg (λi=>i (by omega)),if_neg (λi=>i I),if_neg (by omega),if_neg (by decide)]
  obtain⟨o1,U⟩:=ZGo (λn=>n.done at_ (at_-d.1) failed) (ZI d) G.t (Zfh d)
  have hT:(G.over number at_ failed e).t=⟨(Tree.ons (λn=>n.done at_ (at_-d.1) failed) (ZI d) G.t).f,(Tree.ons (λn=>n.done at_ (at_-d.1) failed) (ZI d) G.t).keys,at_⟩:=by
    show G.t.dones (Zlm e.c at_) (IntKind.wrap .i64 (at_-e.c.1)) failed=_;rw[<-he,af];unfold Tree.dones;rw[if_pos ah];rfl
  have F:∀k,Zjf (a++(number,d)::b) k=Zjf (a++b) k+(if k∈ZI d then 1 else 0):=λk=>by
    rw[Zhy,Zhy];show Zjf a k+((if k∈ZI d then 1 else 0)+Zjf b k)=_;omega
  have ai:∀n:Node,n.last<=G.la->n.fl≠0->n.done at_ (at_-d.1) failed=⟨at_,(n.add at_ (ZjO (at_-d.1) failed)).s,(n.add at_ (ZjO (at_-d.1) failed)).d,n.fl- 1⟩:=λn hl hf=>by
    have hw:ZO n.last at_=0:=by unfold ZO;rw[if_neg (by omega),if_neg (by omega),if_neg (by omega)]
    unfold Node.done
    have:doneE n at_ (at_-d.1)=0:=by
      unfold doneE;rw[hw,if_neg (by decide),if_neg (λi=>i I),if_neg (λi=>i rfl),if_neg hf]
    rw[if_pos this]
  have A:∀k n,(G.over number at_ failed e).t.f k=some n->∃v,G.t.f k=some v/\((k∈ZI d/\n=⟨at_,(v.add at_ (ZjO (at_-d.1) failed)).s,(v.add at_ (ZjO (at_-d.1) failed)).d,v.fl- 1⟩)\/(k∉ZI d/\n=v)):=λk n u=>by
    rw[hT]at u;have D:(Tree.ons (λn=>n.done at_ (at_-d.1) failed) (ZI d) G.t).f k=some n:=u
    by_cases g:k∈ZI d
    ·obtain⟨v,J,hz⟩:=O k g;rw[(U k).1 g,J]at D;cases D;exact⟨v,J,.inl ⟨g,ai v (h.nodes k v J).1 hz⟩⟩
    ·rw[(U k).2 g]at D;exact⟨n,D,.inr ⟨g,rfl⟩⟩
  have w:∀k,(∃n,G.t.f k=some n)->∃n,(G.over number at_ failed e).t.f k=some n:=λk ⟨n,u⟩=>by
    rw[hT];show ∃n,(Tree.ons (λn=>n.done at_ (at_-d.1) failed) (ZI d) G.t).f k=some n
    by_cases Q:k∈ZI d
    ·exact⟨_,by rw[(U k).1 Q,u];rfl⟩
    ·exact⟨n,by rw[(U k).2 Q];exact u⟩
  have R:=h.nd;rw[Ayu,Awo,List.nodup_append]at R;obtain⟨ak,al,S⟩:=R;obtain⟨an,ao⟩:=Ayn.1 al
  have aq:∀p∈a++b,p.1≠number:=λp l i=>by
    rcases Axx.1 l with l|l
    ·exact S p.1 (List.mem_map_of_mem l) number (List.mem_cons_self ..) i
    ·have h8:p.1∈b.map (·.1):=List.mem_map_of_mem l;rw[i]at h8;exact an h8
  have C:∀p∈a++b,p∈a++(number,d)::b:=λp l=>by
    rcases Axx.1 l with l|l
    ·exact List.mem_append_left _ l
    ·exact List.mem_append_right _ (Aws _ l)
  have ar:=h.bd;refine⟨⟨?_,?_,by show 0<=at_;omega,λk n u=>?_,N,by rw[Awe];omega,h.nx,?_,λp l=>?_,λj e' hj ho=>?_,λj hj=>?_,λp l=>?_,λp l k g=>w k (h.has p (C p l) k g),λr n u=>?_,λr u=>?_,h.bd⟩,w⟩
  ·rw[hT];exact o1▸h.keys
  ·rw[hT];exact Int.le_refl _
  ·obtain ⟨v,h0,⟨g,rfl⟩ |⟨g,rfl⟩⟩:=A k n u
   ·obtain⟨x1,x2,V⟩:=h.nodes k v h0;rw[F,if_pos g]at V;exact⟨Int.le_refl _,ZEQ x2 (Rt.done I),by show v.fl- 1=_;omega⟩
   ·obtain⟨x1,x2,V⟩:=h.nodes k n h0;rw[F,if_neg g]at V;exact⟨by show n.last<=at_;omega,x2,V⟩
  ·rw[Ayu,List.nodup_append];exact⟨ak,ao,λx hx y hy=>S x hx y (Aws _ hy)⟩
  ·show ∃pr,upd G.en number (some ⟨zC,true,[]⟩) p.1=_;rw[Zfd _ _ (aq p l)];exact h.ent p (C p l)
  ·have z:upd G.en number (some ⟨zC,true,[]⟩) j=some e':=hj
   by_cases q:j=number
   ·subst q;rw[Zep]at z;cases z;cases ho
   ·rw [Zfd _ _ q]at z;have i:=h.out j e' z ho
    rcases Axx.1 i with i|i
    ·exact List.mem_append_left _ i
    ·rcases Awr.1 i with i|i
     ·exact absurd (congrArg Prod.fst i) q
     ·exact List.mem_append_right _ i
  ·have z:G.nx<=j:=hj
   have:j≠number:=λe9=>by
     have:=h.new j z;rw[e9,L]at this;cases this
   show upd G.en number (some ⟨zC,true,[]⟩) j=none;rw[Zfd _ _ this];exact h.new j z
  ·obtain⟨g1,g2,g3⟩:=h.ok p (C p l);exact⟨g1,g2,by show p.2.1<=at_;omega⟩
  ·obtain ⟨v,h0,⟨g,rfl⟩ |⟨g,rfl⟩⟩:=A _ n u
   ·obtain⟨y1,y2⟩:=h.cs r v h0;have:=ar r;show((v.add at_ (ZjO (at_-d.1) failed)).s 0).1=_/\((v.add at_ (ZjO (at_-d.1) failed)).s 0).2.1=_;rw[ZEP (by omega) W];show Zff _ 0=_/\Zff _ 0=_;rw[y1,y2,ZgH (by omega) (by omega),ZgH (by omega) (by omega)];exact⟨by omega,by omega⟩
   ·exact h.cs r n h0
  ·refine h.cn r ?_
   cases hf:G.t.f (kc r)with
   |none=>rfl
   | some n=>
     obtain⟨n2,h2⟩:=w (kc r) ⟨n,hf⟩;rw[u]at h2;cases h2
structure GrG(T T':TgM)(h h':Zf):Prop where
  u:Upd (λj=>T j≠none) h h'
  s:Zdi T T'
  n:∀j,T' j≠none->T j≠none\/sz h<=j
section
variable{T T' T'':TgM}{h h' h'':Zf}{L:Lay}{G:GS}
theorem GrG.refl(T:TgM)(h:Zf):GrG T T h h:=⟨Upd.refl _ _,Zdi.refl T,λ_ a=>.inl a⟩
theorem GrG.trans(a:GrG T T' h h')(b:GrG T' T'' h' h'')(hT:∀j,T j≠none->j<sz h):GrG T T'' h h'':=by
  refine⟨⟨Aqp a.u.size b.u.size,λk c d=>?_⟩,a.s.trans b.s,λj e=>?_⟩
  ·refine (b.u.old k (Aqq c a.u.size) λf=>?_).trans (a.u.old k c d)
   rcases a.n k f with g|g
   ·exact d g
   ·have:k<sz h:=c;omega
  ·rcases b.n j e with g|g
   ·exact a.n j g
   ·exact .inr (Aqp a.u.size g)
theorem GrG.ext(e:Ext h h'):GrG T T h h':=⟨e.upd _,Zdi.refl T,λ_ a=>.inl a⟩
theorem GrG.then(a:GrG T T' h h')(e:Ext h' h''):GrG T T' h h'':=⟨a.u.trans (e.upd _),a.s,a.n⟩
theorem GrG.pre(e:Ext h h')(a:GrG T T' h' h''):GrG T T' h h'':=⟨(e.upd _).trans a.u,a.s,λj b=>(a.n j b).imp id λg=>Aqp e.size g⟩
theorem GrG.new{S:Nat->Prop}(a:GrG T T' h h')(u:Upd S h' h'')(c:∀j,S j->sz h<=j):GrG T T' h h'':=⟨⟨Aqp a.u.size u.size,λk b d=>(u.old k (Aqq b a.u.size) λe=>by have:=c k e;have:k<sz h:=b;omega).trans (a.u.old k b d)⟩,a.s,a.n⟩
theorem GrG.one{b:Nat}(c:T b≠none)(u:Upd (· = b) h h'):GrG T T h h':=⟨u.mono λj _ a=>by have:j=b:=a;rw[this];exact c,Zdi.refl T,λ_ a=>.inl a⟩
theorem GrG.tag{t:Tg}{S:Nat->Prop}(hT:∀j,T j≠none->j<sz h)(u:Upd S h h')(b:∀j,S j->T j≠none){lo hi:Nat}(hl:sz h<=lo):GrG T (ZhZ T t lo hi) h h':=
  ⟨u.mono λj _ a=>b j a,Zgt λj a=>Aqq (hT j a) hl,λj a=>by
    unfold ZhZ at a;split at a
    ·exact .inr (by omega)
    ·exact .inl a⟩
theorem GrG.old(a:GrG T T' h h'){j:Nat}(b:j<sz h)(c:T j=none):obj h' j=obj h j:=a.u.old j b λd=>d c
theorem Y9{j:Nat}{t:Tg}(h:T j=some t):T j≠none:=by rw[h];exact λe=>by cases e
end
end Go.Proofs.YtonbfpnngkemiaaGreat
