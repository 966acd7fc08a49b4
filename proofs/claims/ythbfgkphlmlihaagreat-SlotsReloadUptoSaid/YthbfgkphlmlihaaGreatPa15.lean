/- A call is over: the tree's Done. -/
import Derived.Test.YthbfgkphlmlihaaGreatPa14
set_option linter.unusedVariables false
set_option linter.unusedSimpArgs false
namespace Go.Proofs.YthbfgkphlmlihaaGreat
open Go Go.Fw
open Nat renaming reduceAdd->Nqa,reduceLT->Nqb,reduceLeDiff->Nqc,reduceEqDiff->Nqd,reduceMul->Nqe
def Tree.idle (t:Tree) (k:K4):Bool:=match t.f k with
  | some n=>n.fl ==0
  | none=>true
theorem ZvK {h:Zf} {tb d:Nat} {O:Nat->Prop} {t:Tree} {T:TypeId} (g:ZaD h tb O t) (f:obj h d=some (.cells [.pointer (some ⟨tb,0,none⟩)].toArray T (0,0))) {k:K4} {K:Bool->Zf->Prop} (i:∀ h',Ext h h'->K (t.idle k) h'):ZcA k (some ⟨d,0,none⟩) K h:=by
  unfold ZcA Ze5;refine ZI λh1 c1 c m=>Zg (rP (Zb (Zj f c) rfl) (Zg ?_));obtain ⟨mb,j,b⟩:=(g.ext c).look k;have hd:Zo h1 [(d,0,.pointer (some ⟨tb,0,none⟩))]:=ZZ (Zb (Zj f c) rfl);have a:=i h1 c;unfold Tree.idle at a;refine rM j (rI (Zb c1 rfl) (rS (Zb c1 rfl) (rS (Zb c1 rfl) (rS (Zb c1 rfl) ?_))))
  rcases b with ⟨e,b⟩ | ⟨q,n,e,l,_,b,_⟩
  ·rw [e] at a
   exact b _ ⟨none,rfl,hd,ZjZ ⟨hd,Zd a⟩⟩
  ·rw [e] at a
   exact b _ ⟨_,rfl,hd,Zk1 l ⟨hd,Zd a⟩⟩
theorem Zx3 {h:Zf} {tb v:Nat} {O:Nat->Prop} {t:Tree} {T:TypeId} (y:ZaD h tb O t) (z:obj h v=some (.cells [.pointer (some ⟨tb,0,none⟩)].toArray T (0,0))) {s:Sl} {l:List K4} (hs:Row h s 4 (l.flatMap k4L)) (hl:l.length<=100000)
    {K:Bool->Zf->Prop} (e:∀ h',Ext h h'->K (l.any t.idle) h'):ZD s (some ⟨v,0,none⟩,()) K h:=by
  unfold ZD ZT Z7 Yd;have hlen:=hs.len;rw [YV Zcj] at hlen;have A:s.len=l.length:=(Ayf (by decide) hlen).symm;refine Za (Zbf (λp w=>∃ i:Nat,p=((i:Int),())/\i<=l.length/\Ext h w/\(l.take i).any t.idle=false) (λp _=>l.length - p.1.toNat) ⟨0,rfl,Ayg _,Ext.refl _,rfl⟩ ?_);rintro _ w ⟨i,rfl,B,he,j⟩ Q C;dsimp only;refine Zn (λq=>?_) λq=>?_
  ·have a:i<l.length:=by omega
   have f:l[i]?=some l[i]:=Axy a;generalize l[i]=k at f;obtain ⟨b,o,D,E,d,g⟩:=ZbD Zcj (hs.ext he) f (by decide);have v0:=g 0 _ rfl;have v1:=g 1 _ rfl;have v2:=g 2 _ rfl;have v3:=g 3 _ rfl;have m:IntKind.wrap .i64 ((i:Int)+1)=((i+1:Nat):Int):=wrS a (by omega);have n:l.take (i+1)=l.take i++[k]:=by rw [Aym,f];rfl
   refine Za (d rfl (rI v0 (rS v1 (rS v2 (rS v3 (ZvK (y.ext he) (Zj z he) λh1 x=>⟨λr=>?_,λr=>?_⟩))))))
   ·have:l.any t.idle=true:=List.any_eq_true.2 ⟨k,Axo f,r⟩
    rw [this] at e;refine Za (Zd ?_);have:decide ((i:Int)>=0)=true:=by simp
    rw [this];exact e _ (he.trans x)
   ·rw [m]
    refine C _ _ ⟨i+1,rfl,a,he.trans x,?_⟩ (by show l.length - ((i+1:Nat):Int).toNat<l.length - ((i:Nat):Int).toNat;omega);have u:t.idle k=false:=r;rw [n,List.any_append,j];simp [u]
  ·have c:l.take i=l:=Awd (by omega)
   rw [c] at j;rw [j] at e;exact Za (Zd (e _ he))
def Tree.ons (g:Node->Node):List K4->Tree->Tree
  | [],t=>t
  | k::l,t=>Tree.ons g l (t.on k g)
def Tree.doneE (t:Tree) (c:C8) (rt:Int):Int :=
  if ZiC c≠0 then ZiC c else if ¬ (0<=c.1/\c.1<=1152921504606846976) then 2 else if ¬ (0<=rt/\rt<=1152921504606846976) then 2 else if c.1<t.last then 7 else if (YL c).any t.idle=true then 4 else 0
def Tree.dones (t:Tree) (c:C8) (rt:Int) (f:Bool):Tree:=if t.doneE c rt=0 then (let t':=Tree.ons (λn=>n.done c.1 rt f) (YL c) t;⟨t'.f,t'.keys,c.1⟩) else t
theorem Zv6 {h:Zf} {tb:Nat} {O:Nat->Prop} {t:Tree} (ht:ZaD h tb O t) (hO:∀ j,O j->j<sz h) {c:C8} (hz:Zhu c) {rt:Int} {f:Bool} {K:Int->Zf->Prop}
    (B:∀ h',ZaD h' tb O (t.dones c rt f)->Upd O h h'->K (t.doneE c rt) h'):ZdW (some ⟨tb,0,none⟩) c rt f K h:=by
  have no:∀ e (a:Zf),Ext h a->e≠0->t.doneE c rt=e->K e a:=λe a e9 h1 h2=>by
    have:=B a (by unfold Tree.dones;rw [if_neg (by rw [h2];exact h1)];exact ht.ext e9) (e9.upd _);rwa [h2] at this
  unfold ZdW Zgj;refine ZI λh1 c1 e1 z1=>ZI λh3 v e3 z3=>Za ?_;have p3:=Zj c1 e3;refine rP (Zb p3 rfl) (Zt (rI (Zb v rfl) (rS (Zb v rfl) (rS (Zb v rfl) (rS (Zb v rfl) (rB (Zb v rfl) (rI (Zb v rfl) (rL (Zb v rfl) ?_))))))));refine ZlF (c:=c) hz λs l C D=>Za (Zd (ZfQ (λm=>Za ?_) λm=>?_))
  ·exact no _ l ((e1.trans e3).trans C) m (by unfold Tree.doneE;rw [if_pos m])
  rw [if_pos m] at D;have d:Ext h l:=(e1.trans e3).trans C;have c4:=Zj v C;have p4:=Zj p3 C;have t4:=ht.ext d;refine rI (Zb c4 rfl) (ZlP ?_)
  by_cases E:0<=c.1/\c.1<=1152921504606846976
  case neg =>
    have:inB c.1 0 1152921504606846976=false:=by unfold inB;simp;omega
    rw [this];exact YC (Za (no 2 l d (by decide) (by unfold Tree.doneE;rw [if_neg (λa=>a m),if_pos E])))
  have:inB c.1 0 1152921504606846976=true:=by unfold inB;simp;omega
  rw [this];refine Zt (ZlP ?_)
  by_cases W:0<=rt/\rt<=1152921504606846976
  case neg =>
    have:inB rt 0 1152921504606846976=false:=by unfold inB;simp;omega
    rw [this];exact Zd (YC (Za (no 2 l d (by decide) (by unfold Tree.doneE;rw [if_neg (λa=>a m),if_neg (λa=>a E),if_pos W]))))
  have:inB rt 0 1152921504606846976=true:=by unfold inB;simp;omega
  rw [this];refine Zd (Zt (rI (Zb c4 rfl) (rP (Zb p4 rfl) (Zg (rI t4.last (Zd (Zn (λX=>Za (no 7 l d (by decide) ?_)) λX=>?_)))))))
  ·unfold Tree.doneE;rw [if_neg (λa=>a m),if_neg (λa=>a E),if_neg (λa=>a W),if_pos X]
  have aL:=ZmU c;refine Zx3 t4 p4 D.row (by omega) λF x=>Zd ⟨λhi=>Za (no 4 F (d.trans x) (by decide) ?_),λhi=>?_⟩
  ·unfold Tree.doneE;rw [if_neg (λa=>a m),if_neg (λa=>a E),if_neg (λa=>a W),if_neg X,if_pos hi]
  have hE:t.doneE c rt=0:=by unfold Tree.doneE;rw [if_neg (λa=>a m),if_neg (λa=>a E),if_neg (λa=>a W),if_neg X,if_neg (by rw [hi];decide)]
  have hN:t.dones c rt f=⟨(Tree.ons (λn=>n.done c.1 rt f) (YL c) t).f,(Tree.ons (λn=>n.done c.1 rt f) (YL c) t).keys,c.1⟩:=by unfold Tree.dones;rw [if_pos hE]
  rw [hE,hN] at B;have hlen:=D.row.len;rw [YV Zcj] at hlen;have aN:s.len=(YL c).length:=(Ayf (by decide) hlen).symm;have ai:=d.trans x;have w1:sz h1=sz h+1:=z1;have w3:sz h3=sz h1+1:=z3;have w4:sz h3<=sz l:=C.size;have aO:sz l<=sz F:=x.size;have rows:∀ b,s.blk=some b->sz h<=b/\b<sz l:=λb hb=>by have:sz h3<=b/\b<sz l:=D.lt hb;omega
  have G:∀ k∈YL c,t.isNew k=false:=λk ak=>by
    have:=List.any_eq_false.1 hi k ak;unfold Tree.idle at this;unfold Tree.isNew
    cases hf:t.f k with
    | none=>rw [hf] at this;exact absurd rfl this
    | some n=>rfl
  refine Zbf (λp r=>∃ (i:Nat) (H:List K4) (t2:Tree),p=((i:Int),())/\i<=(YL c).length/\(YL c).drop i=H/\Tree.ons (λn=>n.done c.1 rt f) H t2=Tree.ons (λn=>n.done c.1 rt f) (YL c) t/\ZaD r tb O t2/\(∀ k∈YL c,t2.isNew k=false)/\Upd O F r)
    (λp _=>(YL c).length - p.1.toNat) ⟨0,_,t,rfl,Ayg _,rfl,rfl,t4.ext x,G,Upd.refl _ _⟩ ?_
  rintro _ r ⟨i,H,t2,rfl,aQ,I,J,L,w,hu⟩ Q hQ;have Y:∀ j,sz h<=j->¬ O j:=λj M a=>by have:=hO j a;omega
  have old:∀ {j:Nat} {y:Obj},obj F j=some y->¬ O j->obj r j=some y:=λ{j y} M hn=>(hu.old j (Zp M) hn).trans M;have p6:obj r (sz h)=_:=old (Zj p4 x) (Y _ (Aqo _));have c6:obj r (sz h1)=_:=old (Zj c4 x) (Y _ (by omega));have w6:sz F<=sz r:=hu.size;dsimp only;refine Zn (λq=>?_) λq=>?_
  ·have g:i<(YL c).length:=by omega
   have hg:(YL c)[i]?=some (YL c)[i]:=Axy g;have N:H=(YL c)[i]::(YL c).drop (i+1):=by rw [<- I];exact Ayo g
   have P:=Ayy g;generalize (YL c)[i]=k at hg N P;subst N;have R:Row r s 4 ((YL c).flatMap k4L):=(D.row.ext x).congr λb o hb _ hl=>hu.old b hl (Y _ (rows b (by simp [Sl.blk,hb])).1);obtain ⟨b,o,aT,aU,S,u⟩:=ZbD Zcj R hg (by decide);have v0:=u 0 _ rfl;have v1:=u 1 _ rfl;have v2:=u 2 _ rfl;have v3:=u 3 _ rfl;have an:IntKind.wrap .i64 ((i:Int)+1)=((i+1:Nat):Int):=wrS g (by omega);refine S rfl (rI v0 (rS v1 (rS v2 (rS v3 (ZI λh7 c7 e7 z7=>Zbb c7 λh8 Z u8 z8=>?_)))));have e8:Ext r h8:=e7.then u8 λk B=>by subst B;exact Aqo _
   have p8:=Zj p6 e8;have d8:=Zj c6 e8;have t8:=L.ext e8;obtain ⟨mb,ao,aq⟩:=t8.look k;refine rP (Zb p8 rfl) (Zg (rM ao (rI (Zb Z rfl) (rS (Zb Z rfl) (rS (Zb Z rfl) (rS (Zb Z rfl) (rI (Zb d8 rfl) ?_)))))))
   rcases aq with ⟨z,_⟩ | ⟨q9,n9,z,ar,T,au,U⟩
   ·have:=w k P;unfold Tree.isNew at this;rw [z] at this;cases this
   refine au _ ⟨_,rfl,ZZ (Zb d8 rfl),ZZ (Zb p8 rfl),Zwd ar λV n10 A=>?_⟩;have t10:=U V _ n10 A;have av:obj V (sz h)=_:=(A.old (sz h) (Zp p8) (λaw=>Y _ (Aqo _) (T _ aw).1)).trans p8;refine ⟨ZZ (Zb av rfl),?_⟩;rw [an];have ax:t2.on k (λn=>n.done c.1 rt f)=t2.put k (n9.done c.1 rt f):=by unfold Tree.on;rw [z]
   refine hQ _ _ ⟨i+1,(YL c).drop (i+1),t2.on k (λn=>n.done c.1 rt f),rfl,g,rfl,J,by rw [ax];exact t10,λj M=>(ZBL _ _ _ _).trans (w j M),?_⟩ (by show (YL c).length - ((i+1:Nat):Int).toNat<(YL c).length - ((i:Nat):Int).toNat;omega);exact (hu.trans (e8.upd O)).trans (A.mono λj _ hq=>(T j hq).1)
  ·have ay:H=[]:=by rw [<- I];exact Ayq (by omega)
   subst ay;refine rP (Zb p6 rfl) (rI (Zb c6 rfl) (Zg (L.setLast λh7 t7 u7=>Za (B h7 ?_ ?_))))
   ·rw [<- J];exact t7
   ·exact ((ai.upd O).trans hu).trans u7
end Go.Proofs.YthbfgkphlmlihaaGreat
namespace Go.Proofs.YthbfgkphlmlihaaGreat
open Go Go.Fw Go.Js
abbrev nl:Sl:=⟨none,0,0⟩
abbrev bkL (a:Nat) (g:Int):List Value:=[.pointer (some ⟨a,0,none⟩),iv g]
def Tree.zero:Tree:=⟨λ_=>none,[],0⟩
inductive Tg
  | ro
  | p (b:Nat)
abbrev TgM:=Nat->Option Tg
def Zdm (T T':TgM):Prop:=∀ j,T j≠none->T' j=T j
theorem Zdm.refl (T:TgM):Zdm T T:=λ_ _=>rfl
theorem Zdm.trans {T T' T'':TgM} (a:Zdm T T') (b:Zdm T' T''):Zdm T T'':=λj c=>by
  have e:=a j c;exact (b j (by rw [e];exact c)).trans e
theorem Zdm.to {T T':TgM} (s:Zdm T T') {j:Nat} {t:Tg} (h:T j=some t):T' j=some t:=(s j (by rw [h];exact λe=>by cases e)).trans h
def Zh5 (T:TgM) (t:Tg) (lo hi:Nat):TgM:=λj=>if lo<=j/\j<hi then some t else T j
theorem Zir {T:TgM} {t:Tg} {lo hi j:Nat} (h:lo<=j/\j<hi):Zh5 T t lo hi j=some t:=if_pos h
theorem ZgD {T:TgM} {t:Tg} {lo hi:Nat} (hT:∀ j,T j≠none->j<lo):Zdm T (Zh5 T t lo hi):=λj a=>if_neg λh=>by have:=hT j a;omega
theorem Zne {T:TgM} {t:Tg} {lo hi n:Nat} (hT:∀ j,T j≠none->j<n) (b:hi<=n):∀ j,Zh5 T t lo hi j≠none->j<n:=λj a=>by
  unfold Zh5 at a;split at a
  ·omega
  ·exact hT j a
theorem Zby {T:TgM} {n:Nat} (hT:∀ j,T j≠none->j<n) {j:Nat} {t:Tg} (h:T j=some t):j<n:=hT j (by rw [h];exact λe=>by cases e)
def Zdj (D:Nat->Prop) (T:TgM) (h h':Zf):Prop:=∀ j t,T j=some t->(∀ d,D d->t≠ .p d)->obj h' j=obj h j
theorem Zdj.of {D:Nat->Prop} {T:TgM} {h h':Zf} (hT:∀ j,T j≠none->j<sz h) (u:Upd (λj=>∃ d,D d/\T j=some (.p d)) h h'):Zdj D T h h':=λj t c hd =>
  u.old j (Zby hT c) λ⟨d,b,a⟩=>hd d b (by rw [c] at a;exact Option.some.inj a)
abbrev hdT (T:TgM):Nat->Prop:=λj=>T j=some (.p j)
abbrev inT (T:TgM) (b:Nat):Nat->Prop:=λj=>T j=some (.p b)
abbrev roT (T:TgM):Nat->Prop:=λj=>T j=some .ro
abbrev ShP:=Option Addr × Option Addr
def Ztz:Option Addr->List Nat
  | none=>[]
  | some a=>[a.block]
def hdP (p:ShP):List Nat:=Ztz p.1++Ztz p.2
def shL (p:ShP):List Value:=[.pointer p.1,.pointer p.2]
abbrev BkW:={ B:BkS // WOK B.r } × Int
def BrP (h:Zf) (T:TgM) (b:Nat) (B:BkW):Prop:=BkR h b (inT T b) B.1.1 B.1.2
def HoP (h:Zf) (T:TgM) (b:Nat) (H:HtS):Prop:=∃ a,HtR h b a H/\∀ j,a j≠none->T j=some (.p b)
structure Ent where
  c:C8
  ov:Bool
  pr:List Int
def ZHq (c:C8) (ov:Bool) (s:Sl):Value:= .agg #[iv c.1,.string c.2.1,.string c.2.2.1,.string c.2.2.2.1,.bool c.2.2.2.2.1,iv c.2.2.2.2.2.1,slV nl,.bool ov,slV s]
structure EnI (h:Zf) (T:TgM) (fm:Nat) (en:Int->Option Ent) (f:Int->Option Value) (n:Nat):Prop where
  m:ZlE h fm f n
  e:∀ k,(en k=none/\f k=none)\/∃ e s,en k=some e/\f k=some (ZHq e.c e.ov s)/\Row h s 1 (e.pr.map iv)/\Rw.inS (roT T) s
def EnR (h:Zf) (T:TgM) (fm:Nat) (en:Int->Option Ent):Prop:=∃ f n,EnI h T fm en f n
section
variable {D:Nat->Prop} {T T':TgM} {h h':Zf}
theorem Zdj.head {b:Nat} (u:Zdj D T h h') (a:¬ D b) {j:Nat} (h1:T j=some (.p b)):obj h' j=obj h j:=u j _ h1 λd hd e=>by cases e;exact a hd
theorem Zdj.ro (u:Zdj D T h h') {j:Nat} (h1:T j=some .ro):obj h' j=obj h j:=u j _ h1 λd hd e=>by cases e
theorem Znf (u:Zdj D T h h') (s:Zdm T T') {p:ShP} {x:ShS} (d:ShR h (hdT T) p x) (hd:∀ b,b∈hdP p->¬ D b):ShR h' (hdT T') p x:=by
  obtain ⟨g,i⟩:=p;refine ⟨?_,?_⟩
  ·cases a:x.1 with
   | none=>have:=d.1;rw [a] at this;exact this
   | some y =>
     have:=d.1;rw [a] at this;obtain ⟨b,e,c,o⟩:=this;have f:g=some ⟨b,0,none⟩:=e;exact ⟨b,e,(u.head (hd b (by unfold hdP Ztz;rw [f];simp)) o).trans c,s.to o⟩
  ·cases a:x.2 with
   | none=>have:=d.2;rw [a] at this;exact this
   | some y =>
     have:=d.2;rw [a] at this;obtain ⟨b,e,c,o⟩:=this;have f:i=some ⟨b,0,none⟩:=e;exact ⟨b,e,(u.head (hd b (by unfold hdP Ztz;rw [f];simp)) o).trans c,s.to o⟩
theorem Zok (u:Zdj D T h h') (s:Zdm T T') {b:Nat} {B:BkW} (c:BrP h T b B) (hd:¬ D b):BrP h' T' b B :=
  (BkR.congr c λj a _=>u.head hd a).mono λj a=>s.to a
theorem ZnZ (u:Zdj D T h h') (s:Zdm T T') (hz:sz h<=sz h') {b:Nat} {H:HtS} (d:HoP h T b H) (hd:¬ D b):HoP h' T' b H:=by
  obtain ⟨e,⟨g,S,i,kb,f,n,wt,sl,lb,hm⟩,c⟩:=d;exact ⟨e,⟨g,S,i,kb,f,n,wt,sl,lb,hm.congr (λj a=>u.head hd (c j a)) hz⟩,λj a=>s.to (c j a)⟩
theorem ZkE (u:Zdj D T h h') (s:Zdm T T') {x:Sl} {n:Nat} {vs:List Value} (r:Row h x n vs) (c:Rw.inS (roT T) x):Row h' x n vs/\Rw.inS (roT T') x :=
  ⟨Rw.ZgE r c λb a _=>u.ro a,c.mono λb a=>s.to a⟩
theorem ZkW (u:Zdj D T h h') (s:Zdm T T') {fm:Nat} {en:Int->Option Ent} (c:EnR h T fm en) (d:T fm=some (.p fm)) (hd:¬ D fm):EnR h' T' fm en:=by
  obtain ⟨f,n,hm,he⟩:=c;refine ⟨f,n,hm.congr (u.head hd d),λk=>?_⟩
  rcases he k with h1 | ⟨e,sl,h1,g,h3,i⟩
  ·exact .inl h1
  ·obtain ⟨a,b⟩:=ZkE u s h3 i
   exact .inr ⟨e,sl,h1,g,a,b⟩
theorem ZgZ (u:Zdj D T h h') (s:Zdm T T') {tb:Nat} {t:Tree} (b:ZaD h tb (inT T tb) t) (hd:¬ D tb):ZaD h' tb (inT T' tb) t :=
  (b.congr λj a _=>u.head hd a).mono λj a=>s.to a
theorem XI (u:Zdj D T h h') (s:Zdm T T') {z:Rw.VTR} {r:RulesP} (c:Rw.Y8 h (roT T) z r):Rw.Y8 h' (roT T') z r :=
  (c.keep λb a _=>u.ro a).mono λb _ a=>s.to a
end
theorem Zn9 {α:Type} {g:α->List Nat}:∀ {l:List α},(l.flatMap g).Nodup->∀ {i j:Nat} {x y:α},l[i]?=some x->l[j]?=some y->i≠j->∀ {a:Nat},a∈g x->a∉g y
  | [],_,i,_,_,_,h,_,_,_,_,_=>by cases h
  | b::l,k,i,j,x,y,hi,d,e,a,f,c=>by
    rw [Aye,List.nodup_append] at k;obtain ⟨o,n,m⟩:=k
    cases i with
    | zero =>
      cases j with
      | zero=>exact e rfl
      | succ j =>
        cases hi;exact m a f a (List.mem_flatMap.2 ⟨y,Axo (by simpa using d),c⟩) rfl
    | succ i =>
      cases j with
      | zero =>
        cases d;exact m a c a (List.mem_flatMap.2 ⟨x,Axo (by simpa using hi),f⟩) rfl
      | succ j=>exact Zn9 n (by simpa using hi) (by simpa using d) (by omega) f c
theorem Zup {α:Type} {g:α->List Nat}:∀ {l:List α},(l.flatMap g).Nodup->∀ {i:Nat} {x:α},l[i]?=some x->(g x).Nodup
  | [],_,i,_,h=>by cases h
  | b::l,a,i,x,hi=>by
    rw [Aye,List.nodup_append] at a
    cases i with
    | zero=>cases hi;exact a.1
    | succ i=>exact Zup a.2.1 (by simpa using hi)
theorem ZqP {α:Type} {g:α->List Nat} {l:List α} {i:Nat} {x y:α} (hi:l[i]?=some x) (a:g y=g x):(l.set i y).flatMap g=l.flatMap g:=by
  induction l generalizing i with
  | nil=>cases hi
  | cons b l c =>
    cases i with
    | zero=>cases hi;simp [a]
    | succ i=>simp [c (by simpa using hi)]
theorem Zn8 {α:Type} {g:α->List Value} {l:List α} {i:Nat} {x y:α} (hi:l[i]?=some x) (a:g y=g x):(l.set i y).flatMap g=l.flatMap g:=by
  induction l generalizing i with
  | nil=>cases hi
  | cons b l c =>
    cases i with
    | zero=>cases hi;simp [a]
    | succ i=>simp [c (by simpa using hi)]
structure GS where
  keys:Int
  seed:Int
  r:RulesP
  fl:List ShS
  br:List BkW
  ho:List HtS
  g:Int
  t:Tree
  ld:Int
  cp:Int
  en:Int->Option Ent
  op:Int
  nx:Int
  la:Int
def ZAC (f:FlowP) (s:ShS):Prop:=(f.shape=2\/f.shape=3->s.1≠none)/\(f.shape=1\/f.shape=3->s.2≠none)
structure GOK (G:GS):Prop where
  we:G.r.whereE.2.2=0
  fit:Rw.RulesP.fit G.r
  lf:G.fl.length=G.r.fl.length
  lb:G.br.length=G.r.br.length
  lh:G.ho.length=G.r.ho.length
  sh:∀ (i:Nat) (f:FlowP) (s:ShS),G.r.fl[i]?=some f->G.fl[i]?=some s->ZAC f s
  keys:1<=G.keys/\G.keys<=4096
  en:∀ (k:Int) (e:Ent),G.en k=some e->Zhu e.c
theorem GOK.good {G:GS} (ok:GOK G):Good G.r:=ZqN ok.we
abbrev geL (G:GS) (sb tb fm:Nat) (r:Rw.VTR) (f1 b1 h1:Sl):List Value :=
  [iv G.keys,.int .u64 G.seed,.pointer (some ⟨sb,0,none⟩),slV r.1,slV r.2.1,slV r.2.2.1,slV r.2.2.2.1,slV r.2.2.2.2.1,slV f1,slV b1,slV h1,iv G.g,.pointer (some ⟨tb,0,none⟩),iv G.ld,iv G.cp,.map (some fm),iv G.op,iv G.nx,iv G.la]
abbrev geO (G:GS) (sb tb fm:Nat) (r:Rw.VTR) (f1 b1 h1:Sl):Obj:= .cells (geL G sb tb fm r f1 b1 h1).toArray 82 (0,0)
structure Lay where
  eb:Nat
  sb:Nat
  tb:Nat
  fm:Nat
  z:Rw.VTR
  zs:Rw.VTR
  g:Int
  f1:Sl
  b1:Sl
  h1:Sl
  fs:List (ShP × ShS)
  bs:List (Nat × BkW)
  hs:List (Nat × HtS)
def Lay.hds (L:Lay):List Nat:=L.eb::L.sb::L.tb::L.fm::(L.fs.flatMap (λx=>hdP x.1)++(L.bs.flatMap (λx=>[x.1])++L.hs.flatMap (λx=>[x.1])))
structure FlR (h:Zf) (T:TgM) (f1:Sl) (fs:List (ShP × ShS)):Prop where
  r:Row h f1 2 (fs.flatMap λx=>shL x.1)
  o:Rw.inS (roT T) f1
  e:∀ (i:Nat) (x:ShP × ShS),fs[i]?=some x->ShR h (hdT T) x.1 x.2
structure BsR (h:Zf) (T:TgM) (b1:Sl) (bs:List (Nat × BkW)):Prop where
  r:Row h b1 2 (bs.flatMap λx=>bkL x.1 x.2.2)
  o:Rw.inS (roT T) b1
  e:∀ (i:Nat) (x:Nat × BkW),bs[i]?=some x->BrP h T x.1 x.2
structure HsR (h:Zf) (T:TgM) (h1:Sl) (hs:List (Nat × HtS)):Prop where
  r:Row h h1 1 (hs.flatMap λx=>[pN x.1])
  o:Rw.inS (roT T) h1
  e:∀ (i:Nat) (x:Nat × HtS),hs[i]?=some x->HoP h T x.1 x.2
structure Zba (h:Zf) (T:TgM) (L:Lay) (G:GS):Prop where
  cells:obj h L.eb=some (geO G L.sb L.tb L.fm L.z L.f1 L.b1 L.h1)
  eT:T L.eb=some (.p L.eb)
  store:obj h L.sb=some (Zo2 L.zs L.g)
  sT:T L.sb=some (.p L.sb)
  rz:Rw.Y8 h (roT T) L.z G.r
  rs:Rw.Y8 h (roT T) L.zs G.r
  tree:ZaD h L.tb (inT T L.tb) G.t
  ent:EnR h T L.fm G.en
  fT:T L.fm=some (.p L.fm)
  lf:L.fs.map (·.2)=G.fl
  lb:L.bs.map (·.2)=G.br
  lh:L.hs.map (·.2)=G.ho
  fl:FlR h T L.f1 L.fs
  br:BsR h T L.b1 L.bs
  ho:HsR h T L.h1 L.hs
  nd:L.hds.Nodup
  hT:∀ j,T j≠none->j<sz h
section
variable {D:Nat->Prop} {T T':TgM} {h h':Zf} {L:Lay} {G:GS}
theorem FlR.keep {f1:Sl} {fs:List (ShP × ShS)} (u:Zdj D T h h') (s:Zdm T T') (d:FlR h T f1 fs) (hd:∀ b,b∈fs.flatMap (λx=>hdP x.1)->¬ D b):FlR h' T' f1 fs:=by
  obtain ⟨a,b⟩:=ZkE u s d.r d.o;exact ⟨a,b,λi x hi=>Znf u s (d.e i x hi) λc f=>hd c (List.mem_flatMap.2 ⟨x,Axo hi,f⟩)⟩
theorem BsR.keep {f1:Sl} {fs:List (Nat × BkW)} (u:Zdj D T h h') (s:Zdm T T') (c:BsR h T f1 fs) (hd:∀ b,b∈fs.flatMap (λx=>[x.1])->¬ D b):BsR h' T' f1 fs:=by
  obtain ⟨a,b⟩:=ZkE u s c.r c.o;exact ⟨a,b,λi x hi=>Zok u s (c.e i x hi) (hd x.1 (List.mem_flatMap.2 ⟨x,Axo hi,by simp⟩))⟩
theorem HsR.keep {f1:Sl} {fs:List (Nat × HtS)} (u:Zdj D T h h') (s:Zdm T T') (hz:sz h<=sz h') (c:HsR h T f1 fs) (hd:∀ b,b∈fs.flatMap (λx=>[x.1])->¬ D b):HsR h' T' f1 fs:=by
  obtain ⟨a,b⟩:=ZkE u s c.r c.o;exact ⟨a,b,λi x hi=>ZnZ u s hz (c.e i x hi) (hd x.1 (List.mem_flatMap.2 ⟨x,Axo hi,by simp⟩))⟩
theorem Zba.keep (a:Zba h T L G) (u:Zdj (λ_=>False) T h h') (s:Zdm T T') (hz:sz h<=sz h') (hT:∀ j,T' j≠none->j<sz h'):Zba h' T' L G :=
  ⟨(u.head id a.eT).trans a.cells,s.to a.eT,(u.head id a.sT).trans a.store,s.to a.sT,XI u s a.rz,XI u s a.rs,ZgZ u s a.tree id,ZkW u s a.ent a.fT id,s.to a.fT,
    a.lf,a.lb,a.lh,a.fl.keep u s λ_ _=>id,a.br.keep u s λ_ _=>id,a.ho.keep u s hz λ_ _=>id,a.nd,hT⟩
theorem Zba.ext (a:Zba h T L G) (e:Ext h h'):Zba h' T L G:=a.keep (λj t b _=>ZG e (Zby a.hT b)) (Zdm.refl T) e.size λj c=>Aqq (a.hT j c) e.size
theorem Zba.frame (a:Zba h T L G) {S:Nat->Prop} (u:Upd S h h') (c:∀ j,S j->T j=none):Zba h' T L G :=
  a.keep (λj t b _=>u.old j (Zby a.hT b) λhs=>by rw [c j hs] at b;cases b) (Zdm.refl T) u.size λj d=>Aqq (a.hT j d) u.size
theorem ZrT {L:Lay} (c:L.hds.Nodup):(L.sb≠L.eb/\L.tb≠L.eb/\L.fm≠L.eb/\∀ b,b∈L.fs.flatMap (λx=>hdP x.1)++(L.bs.flatMap (λx=>[x.1])++L.hs.flatMap (λx=>[x.1]))->b≠L.eb)/\(L.tb≠L.sb/\L.fm≠L.sb/\∀ b,b∈L.fs.flatMap (λx=>hdP x.1)++(L.bs.flatMap (λx=>[x.1])++L.hs.flatMap (λx=>[x.1]))->b≠L.sb)/\(L.fm≠L.tb/\∀ b,b∈L.fs.flatMap (λx=>hdP x.1)++(L.bs.flatMap (λx=>[x.1])++L.hs.flatMap (λx=>[x.1]))->b≠L.tb)/\(∀ b,b∈L.fs.flatMap (λx=>hdP x.1)++(L.bs.flatMap (λx=>[x.1])++L.hs.flatMap (λx=>[x.1]))->b≠L.fm)/\(L.fs.flatMap (λx=>hdP x.1)++(L.bs.flatMap (λx=>[x.1])++L.hs.flatMap (λx=>[x.1]))).Nodup:=by
  unfold Lay.hds at c;simp only [Ayp,Awr,not_or] at c;obtain ⟨⟨d,f,a3,a4⟩,⟨b1,b2,g⟩,⟨c1,h⟩,d1,d2⟩:=c;exact ⟨⟨Ne.symm d,Ne.symm f,Ne.symm a3,λb a e=>a4 (e▸a)⟩,⟨Ne.symm b1,Ne.symm b2,λb a e=>g (e▸a)⟩,⟨Ne.symm c1,λb a e=>h (e▸a)⟩,λb a e=>d1 (e▸a),d2⟩
theorem ZEt {L:Lay} (c:L.hds.Nodup):(L.fs.flatMap (λx=>hdP x.1)).Nodup/\(L.bs.flatMap (λx=>[x.1])).Nodup/\(L.hs.flatMap (λx=>[x.1])).Nodup/\(∀ b,b∈L.fs.flatMap (λx=>hdP x.1)->b∉L.bs.flatMap (λx=>[x.1])/\b∉L.hs.flatMap (λx=>[x.1]))/\∀ b,b∈L.bs.flatMap (λx=>[x.1])->b∉L.hs.flatMap (λx=>[x.1]):=by
  obtain ⟨_,_,_,_,c⟩:=ZrT c;rw [List.nodup_append] at c;obtain ⟨g,e,f⟩:=c;rw [List.nodup_append] at e;obtain ⟨h,i,j⟩:=e;exact ⟨g,h,i,λb d=>⟨λa=>f b d b (Axx.2 (.inl a)) rfl,λa=>f b d b (Axx.2 (.inr a)) rfl⟩,λb d a=>j b d b a rfl⟩
theorem Ztk {b:Nat} (hT:∀ j,T j≠none->j<sz h) (c:T b=some (.p b)) (u:Upd (· = b) h h'):Zdj (· = b) T h h':=λj t a hd=>u.old j (Zby hT a) λe=>by
  have d:j=b:=e;subst d;rw [c] at a;cases a;exact hd j rfl rfl
theorem Zba.set (a:Zba h T L G) {ld cp op nx la:Int} (e:obj h' L.eb=some (geO { G with ld:=ld,cp:=cp,op:=op,nx:=nx,la:=la } L.sb L.tb L.fm L.z L.f1 L.b1 L.h1)) (u:Upd (· = L.eb) h h'):Zba h' T L { G with ld:=ld,cp:=cp,op:=op,nx:=nx,la:=la }:=by
  obtain ⟨⟨f,g,i,d⟩,_⟩:=ZrT a.nd;have k:=Ztk a.hT a.eT u;have s:=Zdm.refl T;have l:∀ b,b∈L.fs.flatMap (λx=>hdP x.1)->¬ b=L.eb:=λb c=>d b (Axx.2 (.inl c));have m:∀ b,b∈L.bs.flatMap (λx=>[x.1])->¬ b=L.eb:=λb c=>d b (Axx.2 (.inr (Axx.2 (.inl c))));have n:∀ b,b∈L.hs.flatMap (λx=>[x.1])->¬ b=L.eb:=λb c=>d b (Axx.2 (.inr (Axx.2 (.inr c))))
  exact ⟨e,a.eT,(k.head f a.sT).trans a.store,a.sT,XI k s a.rz,XI k s a.rs,ZgZ k s a.tree g,ZkW k s a.ent a.fT i,a.fT,
    a.lf,a.lb,a.lh,a.fl.keep k s l,a.br.keep k s m,a.ho.keep k s u.size n,a.nd,λj o=>Aqq (a.hT j o) u.size⟩
theorem Zba.tree' {O':Nat->Prop} {t':Tree} (a:Zba h T L G) (f:ZaD h' L.tb O' t') (u:Upd (inT T L.tb) h h') (gr:Zsw (inT T L.tb) O' h h'):Zba h' (Zh5 T (.p L.tb) (sz h) (sz h')) L { G with t:=t' }:=by
  obtain ⟨⟨_,i,_,_⟩,⟨l,_,_⟩,⟨m,e⟩,_⟩:=ZrT a.nd;have k:Zdj (· = L.tb) T h h':=Zdj.of a.hT (u.mono λj _ c=>⟨L.tb,rfl,c⟩);have s:Zdm T (Zh5 T (.p L.tb) (sz h) (sz h')):=ZgD a.hT;have n:∀ b,b∈L.fs.flatMap (λx=>hdP x.1)->¬ b=L.tb:=λb d=>e b (Axx.2 (.inl d));have o:∀ b,b∈L.bs.flatMap (λx=>[x.1])->¬ b=L.tb:=λb d=>e b (Axx.2 (.inr (Axx.2 (.inl d))));have q:∀ b,b∈L.hs.flatMap (λx=>[x.1])->¬ b=L.tb:=λb d=>e b (Axx.2 (.inr (Axx.2 (.inr d))))
  refine ⟨(k.head (Ne.symm i) a.eT).trans a.cells,s.to a.eT,(k.head (Ne.symm l) a.sT).trans a.store,s.to a.sT,XI k s a.rz,XI k s a.rs,f.mono λj c=>?_,ZkW k s a.ent a.fT m,s.to a.fT,
    a.lf,a.lb,a.lh,a.fl.keep k s n,a.br.keep k s o,a.ho.keep k s u.size q,a.nd,Zne (λj c=>Aqq (a.hT j c) u.size) (Aqo _)⟩
  rcases gr.1 j c with g | g
  ·exact s.to g
  ·exact Zir g
theorem Zba.mapped (a:Zba h T L G) {en:Int->Option Ent} (hm:EnR h' T L.fm en) (u:Upd (· = L.fm) h h'):Zba h' T L { G with en:=en }:=by
  obtain ⟨⟨_,_,d,_⟩,⟨_,e,_⟩,⟨t3,_⟩,f4,_⟩:=ZrT a.nd;have k:=Ztk a.hT a.fT u;have s:=Zdm.refl T;have f:∀ b,b∈L.fs.flatMap (λx=>hdP x.1)->¬ b=L.fm:=λb c=>f4 b (Axx.2 (.inl c));have g:∀ b,b∈L.bs.flatMap (λx=>[x.1])->¬ b=L.fm:=λb c=>f4 b (Axx.2 (.inr (Axx.2 (.inl c))));have i:∀ b,b∈L.hs.flatMap (λx=>[x.1])->¬ b=L.fm:=λb c=>f4 b (Axx.2 (.inr (Axx.2 (.inr c))))
  exact ⟨(k.head (Ne.symm d) a.eT).trans a.cells,a.eT,(k.head (Ne.symm e) a.sT).trans a.store,a.sT,XI k s a.rz,XI k s a.rs,ZgZ k s a.tree (Ne.symm t3),hm,a.fT,
    a.lf,a.lb,a.lh,a.fl.keep k s f,a.br.keep k s g,a.ho.keep k s u.size i,a.nd,λj l=>Aqq (a.hT j l) u.size⟩
end
section
variable {T T':TgM} {h h':Zf} {L:Lay} {G:GS}
theorem Zba.ge (a:Zba h T L G) {i:Nat} {x:ShP × ShS} (b:L.fs[i]?=some x):G.fl[i]?=some x.2:=by rw [<- a.lf,Awy,b];rfl
theorem Zba.gf (b:Zba h T L G) {i:Nat} {s:ShS} (a:G.fl[i]?=some s):∃ p,L.fs[i]?=some (p,s):=by
  rw [<- b.lf,Awy] at a
  cases q:L.fs[i]? with
  | none=>rw [q] at a;cases a
  | some x=>rw [q] at a;cases a;exact ⟨x.1,rfl⟩
theorem Zba.gb (b:Zba h T L G) {i:Nat} {s:BkW} (a:G.br[i]?=some s):∃ p,L.bs[i]?=some (p,s):=by
  rw [<- b.lb,Awy] at a
  cases q:L.bs[i]? with
  | none=>rw [q] at a;cases a
  | some x=>rw [q] at a;cases a;exact ⟨x.1,rfl⟩
theorem Zba.gh (b:Zba h T L G) {i:Nat} {s:HtS} (a:G.ho[i]?=some s):∃ p,L.hs[i]?=some (p,s):=by
  rw [<- b.lh,Awy] at a
  cases q:L.hs[i]? with
  | none=>rw [q] at a;cases a
  | some x=>rw [q] at a;cases a;exact ⟨x.1,rfl⟩
theorem Zqk {α:Type} {l:List α} {i j:Nat} {x y:α} (h:(l.set i x)[j]?=some y):(j=i/\y=x)\/(j≠i/\l[j]?=some y):=by
  by_cases e:i=j
  ·subst e
   rw [List.getElem?_set_self'] at h
   cases q:l[i]? with
   | none=>rw [q] at h;cases h
   | some z=>rw [q] at h;cases h;exact .inl ⟨rfl,rfl⟩
  ·rw [List.getElem?_set_ne e] at h
   exact .inr ⟨λa=>e a.symm,h⟩
theorem GOK.setF (ok:GOK G) {i:Nat} {s s':ShS} (d:G.fl[i]?=some s) (hs:∀ f,ZAC f s->ZAC f s'):GOK { G with fl:=G.fl.set i s' } :=
  ⟨ok.we,ok.fit,(by show (G.fl.set i s').length=_;rw [List.length_set];exact ok.lf),ok.lb,ok.lh,λj f y b e=>by
    rcases Zqk e with ⟨c,a⟩ | ⟨c,a⟩
    ·subst c;subst a
     exact hs f (ok.sh j f s b d)
    ·exact ok.sh j f y b a,ok.keys,ok.en⟩
theorem GOK.setB (ok:GOK G) {i:Nat} {s:BkW}:GOK { G with br:=G.br.set i s } :=
  ⟨ok.we,ok.fit,ok.lf,(by show (G.br.set i s).length=_;rw [List.length_set];exact ok.lb),ok.lh,ok.sh,ok.keys,ok.en⟩
theorem GOK.setH (ok:GOK G) {i:Nat} {s:HtS}:GOK { G with ho:=G.ho.set i s } :=
  ⟨ok.we,ok.fit,ok.lf,ok.lb,(by show (G.ho.set i s).length=_;rw [List.length_set];exact ok.lh),ok.sh,ok.keys,ok.en⟩
theorem Zba.setF (a:Zba h T L G) {i:Nat} {x:ShP × ShS} (l:L.fs[i]?=some x) {s':ShS} (t:ShR h' (hdT T) x.1 s') (u:Upd (λj=>∃ d,d∈hdP x.1/\T j=some (.p d)) h h'):Zba h' T { L with fs:=L.fs.set i (x.1,s')} { G with fl:=G.fl.set i s' }:=by
  obtain ⟨⟨H,I,J,v⟩,⟨_,_,w⟩,⟨_,t4⟩,f4,_⟩:=ZrT a.nd;obtain ⟨z,_,_,n,_⟩:=ZEt a.nd;have k:Zdj (· ∈ hdP x.1) T h h':=Zdj.of a.hT u;have s:=Zdm.refl T;have hm:∀ b,b∈hdP x.1->b∈L.fs.flatMap (λx=>hdP x.1):=λb f=>List.mem_flatMap.2 ⟨x,Axo l,f⟩;have g:∀ b,b∈hdP x.1->b∈L.fs.flatMap (λx=>hdP x.1)++(L.bs.flatMap (λx=>[x.1])++L.hs.flatMap (λx=>[x.1])):=λb f=>Axx.2 (.inl (hm b f));have A:(L.fs.set i (x.1,s')).flatMap (λx=>hdP x.1)=L.fs.flatMap (λx=>hdP x.1):=ZqP l rfl;have B:(L.fs.set i (x.1,s')).flatMap (λx=>shL x.1)=L.fs.flatMap (λx=>shL x.1):=Zn8 l rfl;obtain ⟨C,D⟩:=ZkE k s a.fl.r a.fl.o
  refine ⟨(k.head (λc=>v _ (g _ c) rfl) a.eT).trans a.cells,a.eT,(k.head (λc=>w _ (g _ c) rfl) a.sT).trans a.store,a.sT,XI k s a.rz,XI k s a.rs,
    ZgZ k s a.tree λc=>t4 _ (g _ c) rfl,ZkW k s a.ent a.fT λc=>f4 _ (g _ c) rfl,a.fT,?_,a.lb,a.lh,⟨by rw [B];exact C,D,λj y E=>?_⟩,a.br.keep k s λb f c=>(n b (hm b c)).1 f,a.ho.keep k s u.size λb f c=>(n b (hm b c)).2 f,?_,λj F=>Aqq (a.hT j F) u.size⟩
  ·show (L.fs.set i (x.1,s')).map (·.2)=G.fl.set i s'
   rw [List.map_set,a.lf]
  ·rcases Zqk E with ⟨q,m⟩ | ⟨q,m⟩
   ·subst m;exact t
   ·exact Znf k s (a.fl.e j y m) λb f c=>Zn9 z m l q f c
  ·show (L.eb::L.sb::L.tb::L.fm::((L.fs.set i (x.1,s')).flatMap (λx=>hdP x.1)++_)).Nodup
   rw [A];exact a.nd
theorem Zba.setB (c:Zba h T L G) {i:Nat} {x:Nat × BkW} (m:L.bs[i]?=some x) {B':{ B:BkS // WOK B.r }} {O':Nat->Prop} (v:BkR h' x.1 O' B'.1 B'.2) (u:Upd (inT T x.1) h h') (gr:Zsw (inT T x.1) O' h h'):Zba h' (Zh5 T (.p x.1) (sz h) (sz h')) { L with bs:=L.bs.set i (x.1,B',x.2.2)} { G with br:=G.br.set i (B',x.2.2)}:=by
  obtain ⟨⟨J,K,M,w⟩,⟨_,_,z⟩,⟨_,t4⟩,f4,_⟩:=ZrT c.nd;obtain ⟨_,A,_,C,n5⟩:=ZEt c.nd;have k:Zdj (· = x.1) T h h':=Zdj.of c.hT (u.mono λj _ l=>⟨x.1,rfl,l⟩);have s:Zdm T (Zh5 T (.p x.1) (sz h) (sz h')):=ZgD c.hT;have hm:x.1∈L.bs.flatMap (λx=>[x.1]):=List.mem_flatMap.2 ⟨x,Axo m,by simp⟩;have f:x.1∈L.fs.flatMap (λx=>hdP x.1)++(L.bs.flatMap (λx=>[x.1])++L.hs.flatMap (λx=>[x.1])):=Axx.2 (.inr (Axx.2 (.inl hm)));have D:(L.bs.set i (x.1,B',x.2.2)).flatMap (λx=>[x.1])=L.bs.flatMap (λx=>[x.1]):=ZqP m rfl;have E:(L.bs.set i (x.1,B',x.2.2)).flatMap (λx=>bkL x.1 x.2.2)=L.bs.flatMap (λx=>bkL x.1 x.2.2):=Zn8 m rfl;obtain ⟨F,H⟩:=ZkE k s c.br.r c.br.o
  refine ⟨(k.head (λd=>w _ f d.symm) c.eT).trans c.cells,s.to c.eT,(k.head (λd=>z _ f d.symm) c.sT).trans c.store,s.to c.sT,XI k s c.rz,XI k s c.rs,
    ZgZ k s c.tree λd=>t4 _ f d.symm,ZkW k s c.ent c.fT λd=>f4 _ f d.symm,s.to c.fT,c.lf,?_,c.lh,c.fl.keep k s λb q d=>(C b q).1 (d▸hm),⟨by rw [E];exact F,H,λj y I=>?_⟩,c.ho.keep k s u.size λb q d=>n5 x.1 hm (d▸q),?_,Zne (λj l=>Aqq (c.hT j l) u.size) (Aqo _)⟩
  ·show (L.bs.set i (x.1,B',x.2.2)).map (·.2)=G.br.set i (B',x.2.2)
   rw [List.map_set,c.lb]
  ·rcases Zqk I with ⟨t,n⟩ | ⟨t,n⟩
   ·subst n
    refine BkR.mono v λj l=>?_
    rcases gr.1 j l with g | g
    ·exact s.to g
    ·exact Zir g
   ·exact Zok k s (c.br.e j y n) λd=>Zn9 A n m t (a:=y.1) (by simp) (by rw [d];simp)
  ·show (L.eb::L.sb::L.tb::L.fm::(_++((L.bs.set i (x.1,B',x.2.2)).flatMap (λx=>[x.1])++_))).Nodup
   rw [D];exact c.nd
theorem Zba.setH (c:Zba h T L G) {i:Nat} {x:Nat × HtS} (v:L.hs[i]?=some x) {m:HtS} {B q:Nat->Option HTag} (C:∀ j,B j≠none->T j=some (.p x.1)) (D:HtR h' x.1 q m) (gr:GrT B q h h'):Zba h' (Zh5 T (.p x.1) (sz h) (sz h')) { L with hs:=L.hs.set i (x.1,m)} { G with ho:=G.ho.set i m }:=by
  obtain ⟨⟨Q,R,U,F⟩,⟨_,_,H⟩,⟨_,t4⟩,f4,_⟩:=ZrT c.nd;obtain ⟨_,_,I,J,n5⟩:=ZEt c.nd;have u:=gr.upd;have k:Zdj (· = x.1) T h h':=Zdj.of c.hT (u.mono λj _ t=>⟨x.1,rfl,C j t⟩);have s:Zdm T (Zh5 T (.p x.1) (sz h) (sz h')):=ZgD c.hT;have hm:x.1∈L.hs.flatMap (λx=>[x.1]):=List.mem_flatMap.2 ⟨x,Axo v,by simp⟩;have l:x.1∈L.fs.flatMap (λx=>hdP x.1)++(L.bs.flatMap (λx=>[x.1])++L.hs.flatMap (λx=>[x.1])):=Axx.2 (.inr (Axx.2 (.inr hm)));have K:(L.hs.set i (x.1,m)).flatMap (λx=>[x.1])=L.hs.flatMap (λx=>[x.1]):=ZqP v rfl;have M:(L.hs.set i (x.1,m)).flatMap (λx=>[pN x.1])=L.hs.flatMap (λx=>[pN x.1]):=Zn8 v rfl;obtain ⟨N,O⟩:=ZkE k s c.ho.r c.ho.o
  refine ⟨(k.head (λd=>F _ l d.symm) c.eT).trans c.cells,s.to c.eT,(k.head (λd=>H _ l d.symm) c.sT).trans c.store,s.to c.sT,XI k s c.rz,XI k s c.rs,
    ZgZ k s c.tree λd=>t4 _ l d.symm,ZkW k s c.ent c.fT λd=>f4 _ l d.symm,s.to c.fT,c.lf,c.lb,?_,c.fl.keep k s λb z d=>(J b z).2 (d▸hm),c.br.keep k s λb z d=>n5 b z (d▸hm),⟨by rw [M];exact N,O,λj y P=>?_⟩,?_,Zne (λj t=>Aqq (c.hT j t) u.size) (Aqo _)⟩
  ·show (L.hs.set i (x.1,m)).map (·.2)=G.ho.set i m
   rw [List.map_set,c.lh]
  ·rcases Zqk P with ⟨E,w⟩ | ⟨E,w⟩
   ·subst w
    obtain ⟨V,S,W,kb,f,n,wt,sl,lb,A⟩:=D.ex;refine ⟨q,D,λj t=>?_⟩
    rcases gr.new j t with g | g
    ·exact s.to (C j g)
    ·exact Zir ⟨g,A.lt j t⟩
   ·exact ZnZ k s u.size (c.ho.e j y w) λd=>Zn9 I w v E (a:=y.1) (by simp) (by rw [d];simp)
  ·show (L.eb::L.sb::L.tb::L.fm::(_++(_++(L.hs.set i (x.1,m)).flatMap (λx=>[x.1])))).Nodup
   rw [K];exact c.nd
end
section
variable {α β:Type} {same:α->β->Bool} {was:List β}
theorem Zf8:∀ {now:List α} {us:List Bool},(Zew same was now us).length=now.length
  | [],_=>rfl
  | r::rs,us=>by
    show (Zew same was rs _).length+1=rs.length+1;rw [Zf8]
theorem ZmV:∀ {now:List α} {us:List Bool},was.length=us.length->∀ {i:Nat} {a:Int},(Zew same was now us)[i]?=some a->a = -1\/∃ k w b,a=((k:Nat):Int)/\was[k]?=some w/\now[i]?=some b/\same b w=true/\us[k]?=some false
  | [],_,_,i,a,h=>by cases h
  | r::rs,us,hl,i,a,h=>by
    have f:=Zs7 (eq:=same r) (ws:=was) (us:=us) (i:=0) hl
    cases i with
    | zero =>
      have e:(pick (same r) was us 0).1=a:=Option.some.inj h
      rcases f with ⟨h1,_⟩ | ⟨k,w,h1,d,h3,l,_⟩
      ·exact .inl (e▸h1)
      ·exact .inr ⟨k,w,r,by rw [<- e,h1,Awb],d,rfl,h3,l⟩
    | succ i =>
      have h':(Zew same was rs (pick (same r) was us 0).2)[i]?=some a:=by
        have:(Zew same was (r::rs) us)=(pick (same r) was us 0).1::Zew same was rs (pick (same r) was us 0).2:=rfl;rw [this] at h;simpa using h
      rcases ZmV (by rw [Zle];exact hl) h' with g | ⟨k,w,b,m,n,o,p,c⟩
      ·exact .inl g
      ·refine .inr ⟨k,w,b,m,n,by simpa using o,p,?_⟩
       rcases f with ⟨_,d⟩ | ⟨j,t,_,_,_,_,s⟩
       ·rw [d] at c;exact c
       ·rw [s] at c
        by_cases e:j=k
        ·subst e
         rw [List.getElem?_set_self'] at c
         cases q:us[j]? with
         | none=>rw [q] at c;cases c
         | some u=>rw [q] at c;cases c
        ·rw [List.getElem?_set_ne e] at c;exact c
theorem Zlp:∀ {now:List α} {us:List Bool},was.length=us.length->∀ {i j k:Nat},(Zew same was now us)[i]?=some (k:Int)->(Zew same was now us)[j]?=some (k:Int)->i=j
  | [],_,_,i,_,_,h,_=>by cases h
  | r::rs,us,hl,i,j,k,hi,c=>by
    have l:=Zs7 (eq:=same r) (ws:=was) (us:=us) (i:=0) hl;have e:(Zew same was (r::rs) us)=(pick (same r) was us 0).1::Zew same was rs (pick (same r) was us 0).2:=rfl
    have no:∀ {m:Nat},(pick (same r) was us 0).1=(k:Int)->(Zew same was rs (pick (same r) was us 0).2)[m]?=some (k:Int)->False:=λ{m} h1 n=>by
      rcases ZmV (by rw [Zle];exact hl) n with g | ⟨d,w,b,p,s,t,v,a⟩
      ·omega
      ·have:d=k:=by omega
       subst this
       rcases l with ⟨h3,_⟩ | ⟨f,x,h3,_,_,_,o⟩
       ·omega
       ·have:f=d:=by omega
        subst this;rw [o,List.getElem?_set_self'] at a
        cases q:us[f]? with
        | none=>rw [q] at a;cases a
        | some u=>rw [q] at a;cases a
    rw [e] at hi c
    cases i with
    | zero =>
      cases j with
      | zero=>rfl
      | succ j=>exact (no (Option.some.inj hi) (by simpa using c)).elim
    | succ i =>
      cases j with
      | zero=>exact (no (Option.some.inj c) (by simpa using hi)).elim
      | succ j=>exact congrArg Nat.succ (Zlp (us:=(pick (same r) was us 0).2) (by rw [Zle];exact hl) (by simpa using hi) (by simpa using c))
end
theorem Zlj {α:Type} {g:α->List Nat}:∀ {l:List α},(l.flatMap g).Nodup->∀ {x:α},(g x).Nodup->(∀ b,b∈g x->b∉l.flatMap g)->((l++[x]).flatMap g).Nodup:=λ{l} h {x} h1 c=>by
  rw [Ayl,List.nodup_append];refine ⟨h,by simpa using h1,λa d b f e=>?_⟩;subst e;exact c a (by simpa using f) d
structure Sel {σ:Type} (g:σ->List Nat) (old:List σ) (K:List Int) (base top:Nat) (done:List σ):Prop where
  nd:(done.flatMap g).Nodup
  of:∀ (i:Nat) (x:σ),done[i]?=some x->(∃ k:Nat,K[i]?=some (k:Int)/\old[k]?=some x)\/∀ b,b∈g x->base<=b/\b<top
section
variable {σ:Type} {g:σ->List Nat} {old:List σ} {K:List Int} {base tp tp':Nat} {done:List σ}
theorem Sel.nil:Sel g old K base tp []:=⟨List.nodup_nil,λi x h=>by cases h⟩
theorem Sel.top (s:Sel g old K base tp done) (h:tp<=tp'):Sel g old K base tp' done:=⟨s.nd,λi x a=>(s.of i x a).imp id λc b d=>by have:=c b d;omega⟩
theorem Sel.heads (s:Sel g old K base tp done) {b:Nat} (c:b∈done.flatMap g):b∈old.flatMap g\/(base<=b/\b<tp):=by
  obtain ⟨x,d,a⟩:=List.mem_flatMap.1 c;obtain ⟨i,hi⟩:=Ayi d
  rcases s.of i x hi with ⟨k,_,e⟩ | h
  ·exact .inl (List.mem_flatMap.2 ⟨x,Axo e,a⟩)
  ·exact .inr (h b a)
theorem Zq2 {α:Type} {l:List α} {x y:α} {i:Nat} (h:(l++[x])[i]?=some y):l[i]?=some y\/(i=l.length/\y=x):=by
  by_cases hi:i<l.length
  ·rw [Awu hi] at h;exact .inl h
  ·rw [Awv (by omega)] at h
   by_cases e:i=l.length
   ·subst e
    rw [Nat.sub_self] at h;exact .inr ⟨rfl,(Option.some.inj h).symm⟩
   ·rw [Aqt (by simp;omega)] at h;cases h
theorem Sel.keep (s:Sel g old K base tp done) (ho:(old.flatMap g).Nodup) (o:∀ b,b∈old.flatMap g->b<base) (p:∀ {i j k:Nat},K[i]?=some (k:Int)->K[j]?=some (k:Int)->i=j) {k:Nat} {x:σ} (n:K[done.length]?=some (k:Int)) (d:old[k]?=some x):Sel g old K base tp (done++[x]):=by
  refine ⟨Zlj s.nd (Zup ho d) λb a f=>?_,λi y l=>?_⟩
  ·obtain ⟨y,l,c⟩:=List.mem_flatMap.1 f
   obtain ⟨i,hi⟩:=Ayi l
   have q:i<done.length:=by
     rcases Aqd i done.length with h | h
     ·exact h
     ·rw [Aqt h] at hi;cases hi
   rcases s.of i y hi with ⟨r,h1,m⟩ | h
   ·by_cases e:k=r
    ·subst e
     have:=p n h1;omega
    ·exact Zn9 ho d m e a c
   ·have:=h b c
    have:=o b (List.mem_flatMap.2 ⟨x,Axo d,a⟩);omega
  ·rcases Zq2 l with h | ⟨h1,m⟩
   ·exact s.of i y h
   ·subst h1;subst m
    exact .inl ⟨k,n,d⟩
theorem Sel.new (s:Sel g old K base tp done) (f:∀ b,b∈old.flatMap g->b<base) (h0:base<=tp) (h1:tp<=tp') {x:σ} (j:(g x).Nodup) (e:∀ b,b∈g x->tp<=b/\b<tp'):Sel g old K base tp' (done++[x]):=by
  refine ⟨Zlj s.nd j λb a c=>?_,λi y k=>?_⟩
  ·have:=e b a
   rcases s.heads c with h | h
   ·have:=f b h;omega
   ·omega
  ·rcases Zq2 k with h | ⟨_,l⟩
   ·exact (s.top h1).of i y h
   ·subst l
    exact .inr λb d=>by have:=e b d;omega
end
def Zji {α σ:Type} (new:α->σ) (old:List σ) (k:Int) (a:α):σ:=if 0<=k then (old[k.toNat]?).getD (new a) else new a
def Zrt {α σ:Type} (new:α->σ) (old:List σ):List Int->List α->List σ
  | k::K,a::l=>Zji new old k a::Zrt new old K l
  | _,_=>[]
theorem Zqm {α σ:Type} {new:α->σ} {old:List σ}:∀ {K:List Int} {l:List α},K.length=l.length->(Zrt new old K l).length=l.length
  | [],[],_=>rfl
  | k::K,a::l,h=>by
    show (Zrt new old K l).length+1=l.length+1;rw [Zqm (by simpa using h)]
theorem Zt4 {α σ:Type} {new:α->σ} {old:List σ}:∀ {K:List Int} {l:List α} {i:Nat} {k:Int} {a:α},K[i]?=some k->l[i]?=some a->(Zrt new old K l)[i]?=some (Zji new old k a)
  | [],_,_,_,_,h,_=>by cases h
  | _::_,[],_,_,_,_,h=>by cases h
  | k::K,a::l,0,_,_,h1,b=>by cases h1;cases b;rfl
  | k::K,a::l,i+1,c,a',h1,b=>by
    show (Zji new old k a::Zrt new old K l)[i+1]?=_;rw [Axh];exact Zt4 (by simpa using h1) (by simpa using b)
theorem Zrs {α σ:Type} {new:α->σ}:∀ {l:List α} {old pre:List σ},old.length=l.length->Zrt new (pre++old) ((List.range l.length).map λi=>((pre.length+i:Nat):Int)) l=old
  | [],[],_,_=>rfl
  | a::l,s::old,pre,h=>by
    have e:(List.range (a::l).length).map (λi=>((pre.length+i:Nat):Int))=(pre.length:Int)::(List.range l.length).map λi=>(((pre++[s]).length+i:Nat):Int):=by
      rw [Aqj,List.range_succ_eq_map,Awo,Aya];congr 1;refine List.map_congr_left λi _=>?_;simp only [Function.comp,Awe,List.length_singleton];congr 1;omega
    rw [e];show Zji new (pre++s::old) (pre.length:Int) a::Zrt new (pre++s::old) _ l=_;have b:pre++s::old=(pre++[s])++old:=by simp
    have h1:Zji new (pre++s::old) (pre.length:Int) a=s:=by
      unfold Zji;rw [if_pos (by omega),Aqu,Awv (Aqo _),Nat.sub_self];rfl
    rw [h1,b,Zrs (by simpa using h)]
theorem Zo7 {α σ:Type} {new:α->σ} {l:List α} {old:List σ} (h:old.length=l.length):Zrt new old ((List.range l.length).map λi=>((i:Nat):Int)) l=old:=by
  have:=Zrs (new:=new) (l:=l) (old:=old) (pre:=[]) h;simpa using this
theorem ZkO {α:Type} {same:α->α->Bool} (hs:∀ a b,same a b=true↔a=b) (l:List α):Zew same l l (List.replicate l.length false)=(List.range l.length).map λi=>((i:Nat):Int):=by
  have:=Zpt hs l [];simpa using this
def zB:BkS:=⟨(em,0,0,0,0,1000000,0,()),1,0,0,0,⟨0,λ_=>z6⟩⟩
def bkZ (f:YK):B7:=Rw.ZB2 f
open Classical in
noncomputable def BkW.new (f:YK) (id:Int):BkW:=if h:WOK (bkZ f) then (⟨⟨bkZ f,1,0,0,0,⟨0,λ_=>z6⟩⟩,h⟩,id) else (⟨zB,by unfold WOK zB;decide⟩,id)
noncomputable def Zk2 (old:List BkW):List Int->List YK->Int->List BkW × Int
  | k::K,a::l,g=>if 0<=k then ((old[k.toNat]?).getD (BkW.new a g)::(Zk2 old K l g).1,(Zk2 old K l g).2) else (BkW.new a (IntKind.wrap .i64 (g+1))::(Zk2 old K l (IntKind.wrap .i64 (g+1))).1,(Zk2 old K l (IntKind.wrap .i64 (g+1))).2)
  | _,_,g=>([],g)
theorem Zru {old:List BkW} {k:Int} {K:List Int} {a:YK} {l:List YK} {g:Int} (h:0<=k):Zk2 old (k::K) (a::l) g=((old[k.toNat]?).getD (BkW.new a g)::(Zk2 old K l g).1,(Zk2 old K l g).2):=if_pos h
theorem ZAD {old:List BkW} {k:Int} {K:List Int} {a:YK} {l:List YK} {g:Int} (h:¬ 0<=k):Zk2 old (k::K) (a::l) g=(BkW.new a (IntKind.wrap .i64 (g+1))::(Zk2 old K l (IntKind.wrap .i64 (g+1))).1,(Zk2 old K l (IntKind.wrap .i64 (g+1))).2):=if_neg h
theorem Zqn {old:List BkW}:∀ {K:List Int} {l:List YK} {g:Int},K.length=l.length->(Zk2 old K l g).1.length=l.length
  | [],[],_,_=>rfl
  | k::K,a::l,g,h=>by
    unfold Zk2;split
    ·show (Zk2 old K l g).1.length+1=l.length+1
     rw [Zqn (by simpa using h)]
    ·show (Zk2 old K l _).1.length+1=l.length+1
     rw [Zqn (by simpa using h)]
theorem Zxd {g:Int} (l:List YK):∀ (old pre:List BkW),old.length=l.length->Zk2 (pre++old) ((List.range l.length).map λi=>((pre.length+i:Nat):Int)) l g=(old,g):=by
  induction l with
  | nil =>
    intro old pre h;have:old=[]:=Aqr h;subst this;rfl
  | cons a l c =>
    intro old pre h
    cases old with
    | nil=>cases h
    | cons s old =>
    have e:(List.range (a::l).length).map (λi=>((pre.length+i:Nat):Int))=(pre.length:Int)::(List.range l.length).map λi=>(((pre++[s]).length+i:Nat):Int):=by
      rw [Aqj,List.range_succ_eq_map,Awo,Aya];congr 1;refine List.map_congr_left λi _=>?_;simp only [Function.comp,Awe,List.length_singleton];congr 1;omega
    have d:pre++s::old=(pre++[s])++old:=by simp
    have b:=c old (pre++[s]) (by simpa using h);rw [<- d] at b;rw [e,Zru (by omega),b]
    have h1:(pre++s::old)[((pre.length:Nat):Int).toNat]?=some s:=by
      rw [Aqu,Awv (Aqo _),Nat.sub_self];rfl
    rw [h1];rfl
theorem Zvj {g:Int} {l:List YK} {old:List BkW} (h:old.length=l.length):Zk2 old ((List.range l.length).map λi=>((i:Nat):Int)) l g=(old,g):=by
  have:=Zxd (g:=g) l old [] h;simpa using this
def ZmM (o:Option Node) (at_:Int):C6:=match o with
  | some n=>n.sum at_
  | none=>z6
def oE (o:Option Node) (at_:Int):Int:=match o with
  | some n=>ZW n.last at_
  | none=>1
def Ziw (o:Option Node) (at_:Int):Int:=match o with
  | some n=>n.past at_
  | none=>0
def ZGT (o:Option Node) (at_:Int):Int:=match o with
  | some n=>n.most at_
  | none=>0
def oFl (o:Option Node):Int:=match o with
  | some n=>n.fl
  | none=>0
section
variable {h:Zf} {p:Option Addr} {o:Option Node}
theorem ZgV (f:Zor h p o) {at_:Int} {K:C6->Int->Zf->Prop} (d:∀ h',Ext h h'->K (ZmM o at_) (oE o at_) h'):Xw p at_ K h:=by
  rcases f with ⟨ho,e⟩ | ⟨m,a,q,b,mb,n,ho,e,g⟩<;>subst ho<;>subst e
  ·unfold Xw Ze6
   refine ZI λh1 c1 i r=>Za (Zl rfl (Zbb c1 λj c l s=>Za ?_));exact rI (Zb c rfl) (rI (Zb c rfl) (rI (Zb c rfl) (rI (Zb c rfl) (rI (Zb c rfl) (rI (Zb c rfl) (d j (i.then l λk d=>by subst d;exact Aqo _)))))))
  ·exact ZyP g d
theorem ZtL (f:Zor h p o) {at_:Int} {K:Int->Int->Zf->Prop} (c:∀ e h',Ext h h'->K (Ziw o at_) e h'):ZaT p at_ K h:=by
  rcases f with ⟨ho,d⟩ | ⟨j,a,k,b,mb,n,ho,d,g⟩<;>subst ho<;>subst d
  ·unfold ZaT Zd3
   exact Za (Za (Zl rfl (Za (Za (c _ h (Ext.refl _))))))
  ·exact ZyN g λh' i=>c _ h' i
theorem ZtM (f:Zor h p o) {at_:Int} {K:Int->Int->Zf->Prop} (c:∀ e h',Ext h h'->K (ZGT o at_) e h'):ZaU p at_ K h:=by
  rcases f with ⟨ho,d⟩ | ⟨j,a,k,b,mb,n,ho,d,g⟩<;>subst ho<;>subst d
  ·unfold ZaU Zd4
   exact Za (Za (Zl rfl (Za (Za (c _ h (Ext.refl _))))))
  ·exact Zwb g λh' i=>c _ h' i
theorem Zj0 (e:Zor h p o) {K:Int->Zf->Prop} (c:K (oFl o) h):YM p K h:=by
  rcases e with ⟨ho,d⟩ | ⟨g,a,i,b,mb,n,ho,d,f⟩<;>subst ho<;>subst d
  ·exact ZjZ c
  ·exact Zk1 f c
end
theorem ZuP (o:Option Node) (at_:Int):∃ v:Int,∀ {h:Zf} {p:Option Addr} {K:Int->Int->Zf->Prop},Zor h p o->(∀ e h',Ext h h'->K v e h')->ZaV p at_ K h:=by
  by_cases q:oE o at_=0
  ·by_cases n:(ZmM o at_).2.2.1=0
   ·refine ⟨0,λ{h p K} d a=>?_⟩
    unfold ZaV Zb9;refine Za (Za (ZgV d λh1 b=>ZI λr f g s=>Zbb f λh3 c i z3=>Za ?_));have j:Ext h h3:=(b.trans g).then i λk a=>by subst a;exact b.size
    rw [q];exact ⟨λl=>absurd l (by decide),λ_=>rI (Zb c rfl) (Z5 (λ_=>Za (Za (a _ h3 j))) λm=>absurd n m)⟩
   ·refine ⟨IntKind.wrap .i64 (Int.tdiv (ZmM o at_).2.2.2.2.1 (ZmM o at_).2.2.1),λ{h p K} d a=>?_⟩
    unfold ZaV Zb9;refine Za (Za (ZgV d λh1 b=>ZI λr f g s=>Zbb f λh3 c i z3=>Za ?_));have j:Ext h h3:=(b.trans g).then i λk a=>by subst a;exact b.size
    rw [q];exact ⟨λl=>absurd l (by decide),λ_=>rI (Zb c rfl) (Z5 (λm=>absurd m n) λm=>rI (Zb c rfl) (rI (Zb c rfl) ⟨m,Za (Za (a _ h3 j))⟩))⟩
  ·refine ⟨0,λ{h p K} d a=>?_⟩
   unfold ZaV Zb9;refine Za (Za (ZgV d λh1 b=>ZI λr f g s=>Zbb f λh3 c i z3=>Za ?_));have j:Ext h h3:=(b.trans g).then i λk a=>by subst a;exact b.size
   exact ⟨λ_=>Za (Za (a _ h3 j)),λl=>absurd l (by simpa using q)⟩
theorem Zso {h:Zf} {p:Option Addr} {o:Option Node} (c:Zor h p o) {at_:Int} {K:Int->Int->Zf->Prop} (a:∀ e h',Ext h h'->K (ZmM o at_).2.2.2.2.2.1 e h'):Zda p at_ K h:=by
  unfold Zda Zfw;refine Za (Za (ZgV c λh1 b=>ZI λl d f m=>Zbb d λh3 g i z3=>Za ?_));have j:Ext h h3:=(b.trans f).then i λk a=>by subst a;exact b.size
  exact rI (Zb g rfl) (Za (Za (a _ h3 j)))
end Go.Proofs.YthbfgkphlmlihaaGreat
namespace Go.Proofs.YthbfgkphlmlihaaGreat
open Go Go.Fw Go.Js
open Classical in
noncomputable def ZmI (a b:Zex):Bool:=decide (a=b)
theorem Znh (a b:Zex):ZmI a b=true↔a=b:=by unfold ZmI;exact decide_eq_true_iff
abbrev kpF (G:GS) (r:RulesP):List Int:=Zew Zxf G.r.fl r.fl (List.replicate G.r.fl.length false)
abbrev kpB (G:GS) (r:RulesP):List Int:=Zew Zxh G.r.br r.br (List.replicate G.r.br.length false)
noncomputable abbrev kpH (G:GS) (r:RulesP):List Int:=Zew ZmI G.r.ho r.ho (List.replicate G.r.ho.length false)
noncomputable def GS.load (G:GS) (r:RulesP):GS :=
  { G with r:=r,fl:=Zrt ShS.new G.fl (kpF G r) r.fl,br:=(Zk2 G.br (kpB G r) r.br G.g).1,g:=(Zk2 G.br (kpB G r) r.br G.g).2,ho:=Zrt (λf=>HtS.new f G.keys G.seed) G.ho (kpH G r) r.ho }
theorem ZAB (f:FlowP):ZAC f (ShS.new f):=by
  unfold ShS.new;refine ⟨λq=>?_,λq=>?_⟩
  ·show (if _ then _ else _)≠none
   rw [if_pos q];exact λe=>by cases e
  ·show (if _ then _ else _)≠none
   rw [if_pos q];exact λe=>by cases e
theorem GOK.load {G:GS} {r:RulesP} (ok:GOK G) (p:r.whereE.2.2=0) (q:Rw.RulesP.fit r):GOK (G.load r):=by
  refine ⟨p,q,Zqm Zf8,Zqn Zf8,Zqm Zf8,λi f s hi hs=>?_,ok.keys,ok.en⟩;have a:r.fl[i]?=some f:=hi;have c:(Zrt ShS.new G.fl (kpF G r) r.fl)[i]?=some s:=hs
  have g:i<r.fl.length:=by
    rcases Aqd i r.fl.length with h | h
    ·exact h
    ·rw [Aqt h] at a;cases a
  have j:i<(kpF G r).length:=by rw [Zf8];exact g
  obtain ⟨k,o⟩:∃ k,(kpF G r)[i]?=some k:=⟨_,Axy j⟩;rw [Zt4 o a] at c;have d:=Option.some.inj c
  rcases ZmV (by simp) o with h | ⟨m,w,b,h1,l,h3,t,v⟩
  ·subst h
   rw [<- d];unfold Zji;rw [if_neg (by decide)];exact ZAB f
  ·subst h1
   have e:b=f:=by rw [a] at h3;exact (Option.some.inj h3).symm
   subst e;have u:=(Zrv b w).1 t;subst u
   have n:m<G.fl.length:=by
     rw [ok.lf]
     rcases Aqd m G.r.fl.length with h | h
     ·exact h
     ·rw [Aqt h] at l;cases l
   have hm:G.fl[m]?=some G.fl[m]:=Axy n;have:=ok.sh m b _ l hm;rw [<- d];unfold Zji;rw [if_pos (by omega),Aqu,hm];exact this
theorem GS.load_self {G:GS} (ok:GOK G):G.load G.r=G:=by
  unfold GS.load;rw [kpF,kpB,kpH,ZkO Zrv,ZkO Zxg,ZkO Znh,Zo7 ok.lf,Zo7 ok.lh,Zvj ok.lb]
def GS.new (keys seed:Int):GS:=⟨keys,seed,⟨[],[],[],[],[]⟩,[],[],[],0,Tree.zero,0,0,λ_=>none,0,1,0⟩
theorem GOK.new {keys seed:Int} (a:1<=keys/\keys<=4096):GOK (GS.new keys seed):=by
  have no:∀ {α:Type} {P:α->Prop} (f:α),f∈([]:List α)->P f:=λf b=>by cases b
  exact ⟨rfl,⟨no,no,no,no⟩,rfl,rfl,rfl,λi f s hi _=>(by cases hi),a,λk e he=>(by cases he)⟩
end Go.Proofs.YthbfgkphlmlihaaGreat
namespace Go.Proofs.YthbfgkphlmlihaaGreat
open Go Go.Fw Go.Js
noncomputable section
abbrev PC:=Int × ByteArray × ByteArray × ByteArray × Bool × Int
def cl (c:PC) (s:Sl):C8:=(c.1,c.2.1,c.2.2.1,c.2.2.2.1,c.2.2.2.2.1,c.2.2.2.2.2,s,())
inductive Tk
  | hot (i:Nat) (v:ByteArray)
  | warm (i:Nat) (past sum:Int)
  | pace (i:Nat)
  | wp (i:Nat) (past rate:Int)
  | brk (i:Nat)
structure Lk where
  b:Bool
  tk:List Tk
  wt:Option Int
def wtV (wt:Int):Option Int->Int
  | none=>wt
  | some w=>Zij wt w
def Zfp (f:Int->Lk):List Int->List Tk × Int->Option Int × List Tk × Int
  | [],x=>(none,x)
  | i::l,x=>if (f i).b=true then (some i,x.1++(f i).tk,wtV x.2 (f i).wt) else Zfp f l (x.1++(f i).tk,wtV x.2 (f i).wt)
def glV (f:ZbE) (o:ByteArray):Bool:=Classical.choose (ZuO f o)
def gsV (r:S5) (n:Int) (w:N7):Bool:=Classical.choose (ZpW r n w)
def ZN5 (o:Option Node) (at_:Int):Int:=Classical.choose (ZuP o at_)
def hlV (H:HtS) (at_:Int) (v:ByteArray) (c:Int):Bool:=Classical.choose (Zq9 H at_ v c)
def wlV (w:Wm) (at_ past now n:Int):Bool:=Classical.choose (ZuF w at_ past now n)
def wrV (w:Wm) (at_ past:Int):Int:=Classical.choose (ZuE w at_ past)
def plV (p:Pc) (at_ count:Int):Int × Bool × Int:=Classical.choose (ZuJ p at_ count)
def paV (p:Pc) (at_ count a:Int):Int × Bool × Int:=Classical.choose (ZuK p at_ count a)
def Zpr (G:GS) (c:PC) (i:Int):Lk:=⟨match G.r.li[i.toNat]? with
  | some f=> !glV f c.2.2.2.1
  | none=>false,[],none⟩
def Zmv:K4:=(1,em,em,em,())
def ZGU (G:GS) (c:PC):N7:=((ZmM (G.t.f Zmv) c.1).1,oFl (G.t.f Zmv),ZN5 (G.t.f Zmv) c.1,G.ld,G.cp,ZGT (G.t.f Zmv) c.1,(ZmM (G.t.f Zmv) c.1).2.2.2.2.2.1,())
def ZxI (G:GS) (c:PC) (i:Int):Lk:=⟨match G.r.sy[i.toNat]? with
  | some f=> !gsV (Rw.Zqf f) c.2.2.2.2.2 (ZGU G c)
  | none=>false,[],none⟩
def ZnM (G:GS) (c:PC) (al:List ByteArray) (i:Int):Lk:=match G.r.ho[i.toNat]?,G.ho[i.toNat]? with
  | some f,some H=>(match al[f.index.toNat]? with
    | some v=>⟨!hlV H c.1 v c.2.2.2.2.2,[.hot i.toNat v],none⟩
    | none=>⟨false,[],none⟩)
  | _,_=>⟨false,[],none⟩
def Ztj (l:P4):K4:=if Yp l.2.2.1 em=false then (5,em,l.1,l.2.2.1,()) else if Yp l.2.1 em=false then (3,l.2.1,l.1,em,()) else (4,em,l.1,em,())
def Zkr (f:FlowP) (s:ShS) (o:Option Node) (c:PC) (i:Nat):Lk :=
  if f.shape=1 then (match s.2 with
    | some w=>⟨!wlV w c.1 (Ziw o c.1) (ZmM o c.1).1 c.2.2.2.2.2,[.warm i (Ziw o c.1) (ZmM o c.1).1],none⟩
    | none=>⟨false,[],none⟩)
  else if f.shape=2 then (match s.1 with
    | some p=>⟨!(plV p c.1 c.2.2.2.2.2).2.1,[.pace i],some (plV p c.1 c.2.2.2.2.2).1⟩
    | none=>⟨false,[],none⟩)
  else if f.shape=3 then (match s.1,s.2 with
    | some p,some w=>⟨!(paV p c.1 c.2.2.2.2.2 (Zij (wrV w c.1 (Ziw o c.1)) 1)).2.1,[.wp i (Ziw o c.1) (Zij (wrV w c.1 (Ziw o c.1)) 1)],some (paV p c.1 c.2.2.2.2.2 (Zij (wrV w c.1 (Ziw o c.1)) 1)).1⟩
    | _,_=>⟨false,[],none⟩)
  else ⟨!Zl1 (Rw.ZaK f) (ZmM o c.1).1 (oFl o) c.2.2.2.2.2,[],none⟩
def Zfn (G:GS) (c:PC) (gr:Bool) (i:Int):Lk:=match G.r.fl[i.toNat]?,G.fl[i.toNat]? with
  | some f,some s=>if f.clu=true/\(gr=true\/f.fb=false) then ⟨false,[],none⟩ else Zkr f s (G.t.f (Ztj (Zat (Rw.ZaK f) (cl c nl)))) c i.toNat
  | _,_=>⟨false,[],none⟩
def ZnN (G:GS) (c:PC) (i:Int):Lk:=match G.br[i.toNat]? with
  | some B=>⟨!Zul B.1.1 c.1,[.brk i.toNat],none⟩
  | none=>⟨false,[],none⟩
def ZFg (G:GS) (c:PC) (x:List Tk × Int):Option Int × List Tk × Int:=if c.2.2.2.2.1=true then Zfp (ZxI G c) (ofK G.r 4 c.2.1) x else (none,x)
def stg (G:GS) (c:PC) (al:List ByteArray) (gr:Bool):Nat->List Tk × Int->Option Int × List Tk × Int
  | 0,x=>Zfp (Zpr G c) (ofK G.r 5 c.2.1) x
  | 1,x=>ZFg G c x
  | 2,x=>Zfp (ZnM G c al) (ofK G.r 3 c.2.1) x
  | 3,x=>Zfp (Zfn G c gr) (ZmN G.r.fl (cl c nl)) x
  | _,x=>Zfp (ZnN G c) (ofK G.r 2 c.2.1) x
def Zlo (st:Nat->List Tk × Int->Option Int × List Tk × Int):Nat->Nat->List Tk × Int->Option (Int × Int) × List Tk × Int
  | 0,_,x=>(none,x)
  | n+1,j,x=>match (st j x).1 with
    | some i=>(some (((j+1:Nat):Int),i),(st j x).2)
    | none=>Zlo st n (j+1) (st j x).2
def ZnK (G:GS) (c:PC) (al:List ByteArray) (gr:Bool):Option (Int × Int) × List Tk × Int:=Zlo (stg G c al gr) 5 0 ([],0)
def HtS.take (H:HtS) (at_:Int) (v:ByteArray) (c:Int):HtS:=Classical.choose (Classical.choose_spec (Classical.choose_spec (ZuN H at_ v c)))
def Wm.take (w:Wm) (at_ past now n:Int):Wm:=Classical.choose (Classical.choose_spec (Classical.choose_spec (Zq3 w at_ past now n)))
def Wm.fill (w:Wm) (at_ past:Int):Wm:=Classical.choose (Classical.choose_spec (Classical.choose_spec (Zm0 w at_ past)))
def Pc.go (p:Pc) (at_ count:Int):Pc:=Classical.choose (ZB7 p at_ count)
def Pc.at' (p:Pc) (at_ count a:Int):Pc:=Classical.choose (Classical.choose_spec (ZuK p at_ count a))
def Zfs (c:PC) (x:GS × List Int):Tk->GS × List Int
  | .hot i v=>match x.1.ho[i]? with
    | some H=>({ x.1 with ho:=x.1.ho.set i (H.take c.1 v c.2.2.2.2.2)},x.2)
    | none=>x
  | .warm i past sum=>match x.1.fl[i]? with
    | some (p,some w)=>({ x.1 with fl:=x.1.fl.set i (p,some (w.take c.1 past sum c.2.2.2.2.2))},x.2)
    | _=>x
  | .pace i=>match x.1.fl[i]? with
    | some (some p,w)=>({ x.1 with fl:=x.1.fl.set i (some (p.go c.1 c.2.2.2.2.2),w)},x.2)
    | _=>x
  | .wp i past a=>match x.1.fl[i]? with
    | some (some p,some w)=>({ x.1 with fl:=x.1.fl.set i (some (p.at' c.1 c.2.2.2.2.2 a),some (w.fill c.1 past))},x.2)
    | _=>x
  | .brk i=>match x.1.br[i]? with
    | some B=>({ x.1 with br:=x.1.br.set i (⟨B.1.1.enter c.1,by have:=B.1.2;unfold BkS.enter;split<;>exact this⟩,B.2)},if Zpy B.1.1 c.1=true then x.2++[B.2] else x.2)
    | none=>x
end
def ZkZ (al:List ByteArray):Bool:=al.any λs=>decide (64<s.size)
def Zhw (G:GS) (c:PC) (al:List ByteArray):Int :=
  if ZiC (cl c nl)≠0 then ZiC (cl c nl) else if ¬ (0<=c.1/\c.1<=1152921504606846976) then 2 else if ¬ (1<=c.2.2.2.2.2/\c.2.2.2.2.2<=1099511627776) then 2 else if 8<al.length then 5 else if ZkZ al=true then 5
  else if c.1<G.la then 7 else if 4096<=G.op then 3 else G.t.touchE (cl c nl)
def GS.mid (G:GS) (c:PC):GS:={ G with t:=G.t.touched (cl c nl),la:=c.1 }
def GS.blocked (G:GS) (c:PC):GS:={ G with t:=G.t.blocked (cl c nl)}
def GS.pass (G:GS) (c:PC) (pr:List Int):GS:={ G with t:=G.t.passed (cl c nl),nx:=IntKind.wrap .i64 (G.nx+1),op:=IntKind.wrap .i64 (G.op+1),en:=upd G.en G.nx (some ⟨cl c nl,false,pr⟩)}
abbrev V4:=Int × Int × Int × Unit
noncomputable def Zjw (c:PC) (x:GS × List Int) (l:List Tk):GS × List Int:=l.foldl (Zfs c) x
noncomputable def GS.enter (G:GS) (c:PC) (al:List ByteArray) (gr:Bool):(Int × V4 × Int) × GS :=
  if Zhw G c al≠0 then ((0,(0,0,0,()),Zhw G c al),G) else
  match (ZnK (G.mid c) c al gr).1 with
  | some (k,i)=>((0,(k,i,0,()),0),(G.mid c).blocked c)
  | none=>(((Zjw c (G.mid c,[]) (ZnK (G.mid c) c al gr).2.1).1.nx,(0,0,(ZnK (G.mid c) c al gr).2.2,()),0),(Zjw c (G.mid c,[]) (ZnK (G.mid c) c al gr).2.1).1.pass c (Zjw c (G.mid c,[]) (ZnK (G.mid c) c al gr).2.1).2)
noncomputable def ZmA (at_ rt:Int) (failed:Bool) (pr:List Int) (G:GS) (i:Int):GS:=match G.br[i.toNat]? with
  | some B=>{ G with br:=G.br.set i.toNat (⟨B.1.1.done B.1.2 at_ rt failed (decide (B.2∈pr)),by rw [Zus];exact B.1.2⟩,B.2)}
  | none=>G
def ZB1 (c:C8) (at_:Int):C8:=(at_,c.2.1,c.2.2.1,c.2.2.2.1,c.2.2.2.2.1,c.2.2.2.2.2.1,nl,())
def zC:C8:=(0,em,em,em,false,0,nl,())
def GS.over (G:GS) (number at_:Int) (failed:Bool) (e:Ent):GS:={ G with la:=at_,en:=upd G.en number (some ⟨zC,true,[]⟩),op:=IntKind.wrap .i64 (G.op - 1),t:=G.t.dones (ZB1 e.c at_) (IntKind.wrap .i64 (at_ - e.c.1)) failed }
noncomputable def GS.exit (G:GS) (number at_:Int) (failed:Bool):Int × GS:=match G.en number with
  | none=>(40,G)
  | some e=>if e.ov=true then (41,G) else if at_<0 then (2,G) else if at_>1152921504606846976 then (2,G) else if at_<G.la then (7,G) else
    (0,(ofK G.r 2 e.c.2.1).foldl (ZmA at_ (IntKind.wrap .i64 (at_ - e.c.1)) failed e.pr) (G.over number at_ failed e))
def GS.sample (G:GS) (l c:Int):Int × GS:=if l<0\/l>1099511627776\/c<0\/c>1099511627776 then (2,G) else (0,{ G with ld:=l,cp:=c })
theorem GOK.mid {G:GS} {c:PC} (ok:GOK G):GOK (G.mid c):=⟨ok.we,ok.fit,ok.lf,ok.lb,ok.lh,ok.sh,ok.keys,ok.en⟩
theorem GOK.blocked {G:GS} {c:PC} (ok:GOK G):GOK (G.blocked c):=⟨ok.we,ok.fit,ok.lf,ok.lb,ok.lh,ok.sh,ok.keys,ok.en⟩
theorem GOK.en' {G:GS} (ok:GOK G) {k:Int} {e:Ent} (he:Zhu e.c):∀ j a,upd G.en k (some e) j=some a->Zhu a.c:=λj a h=>by
  by_cases q:j=k
  ·subst q;rw [ZdT] at h;cases h;exact he
  ·rw [Zh7 G.en _ q] at h;exact ok.en j a h
theorem GOK.pass {G:GS} {c:PC} {pr:List Int} (ok:GOK G) (hz:Zhu (cl c nl)):GOK (G.pass c pr):=⟨ok.we,ok.fit,ok.lf,ok.lb,ok.lh,ok.sh,ok.keys,ok.en' hz⟩
theorem GOK.run1 {c:PC} {x:GS × List Int} (ok:GOK x.1) (tk:Tk):GOK (Zfs c x tk).1:=by
  unfold Zfs;have f1:∀ {p:Option Pc} {w w':Wm} (f:FlowP),ZAC f (p,some w)->ZAC f (p,some w'):=λf h=>⟨h.1,λ_ e=>by cases e⟩;have f2:∀ {p d:Pc} {w:Option Wm} (f:FlowP),ZAC f (some p,w)->ZAC f (some d,w):=λf h=>⟨λ_ e=>(by cases e),h.2⟩
  cases tk with
  | hot i v=>dsimp only;split;exact ok.setH;exact ok
  | warm i past sum =>
    dsimp only;split
    ·rename_i a;exact ok.setF a f1
    ·exact ok
  | pace i =>
    dsimp only;split
    ·rename_i a;exact ok.setF a f2
    ·exact ok
  | wp i past b =>
    dsimp only;split
    ·rename_i a;exact ok.setF a λf h=>f1 f (f2 f h)
    ·exact ok
  | brk i=>dsimp only;split;exact ok.setB;exact ok
theorem GOK.runs {c:PC}:∀ {l:List Tk} {x:GS × List Int},GOK x.1->GOK (Zjw c x l).1
  | [],_,ok=>ok
  | t::l,x,ok=>GOK.runs (l:=l) (ok.run1 t)
theorem GOK.enter {G:GS} {c:PC} {al:List ByteArray} {gr:Bool} (ok:GOK G) (hz:Zhu (cl c nl)):GOK (G.enter c al gr).2:=by
  unfold GS.enter;split
  ·exact ok
  ·split
   ·exact ok.mid.blocked
   ·exact (GOK.runs (x:=(G.mid c,[])) ok.mid).pass hz
theorem GOK.done1 {at_ rt:Int} {failed:Bool} {pr:List Int} {G:GS} (ok:GOK G) (i:Int):GOK (ZmA at_ rt failed pr G i):=by
  unfold ZmA;split
  ·exact ok.setB
  ·exact ok
theorem GOK.dones {at_ rt:Int} {failed:Bool} {pr:List Int}:∀ {l:List Int} {G:GS},GOK G->GOK (l.foldl (ZmA at_ rt failed pr) G)
  | [],_,ok=>ok
  | i::l,G,ok=>GOK.dones (l:=l) (ok.done1 i)
theorem GOK.over {G:GS} {number at_:Int} {failed:Bool} {e:Ent} (ok:GOK G):GOK (G.over number at_ failed e):=⟨ok.we,ok.fit,ok.lf,ok.lb,ok.lh,ok.sh,ok.keys,ok.en' ⟨by decide,by decide,by decide⟩⟩
theorem GOK.exit {G:GS} {number at_:Int} {failed:Bool} (ok:GOK G):GOK (G.exit number at_ failed).2:=by
  unfold GS.exit;split
  ·exact ok
  ·split
   ·exact ok
   ·split
    ·exact ok
    ·split
     ·exact ok
     ·split
      ·exact ok
      ·exact GOK.dones ok.over
theorem GOK.sample {G:GS} {l c:Int} (ok:GOK G):GOK (G.sample l c).2:=by
  unfold GS.sample;split
  ·exact ok
  ·exact ⟨ok.we,ok.fit,ok.lf,ok.lb,ok.lh,ok.sh,ok.keys,ok.en⟩
structure GrG (T T':TgM) (h h':Zf):Prop where
  u:Upd (λj=>T j≠none) h h'
  s:Zdm T T'
  n:∀ j,T' j≠none->T j≠none\/sz h<=j
section
variable {T T' T'':TgM} {h h' h'':Zf} {L:Lay} {G:GS}
theorem GrG.refl (T:TgM) (h:Zf):GrG T T h h:=⟨Upd.refl _ _,Zdm.refl T,λ_ a=> .inl a⟩
theorem GrG.trans (a:GrG T T' h h') (b:GrG T' T'' h' h'') (hT:∀ j,T j≠none->j<sz h):GrG T T'' h h'':=by
  refine ⟨⟨Aqp a.u.size b.u.size,λk c d=>?_⟩,a.s.trans b.s,λj e=>?_⟩
  ·refine (b.u.old k (Aqq c a.u.size) λf=>?_).trans (a.u.old k c d)
   rcases a.n k f with g | g
   ·exact d g
   ·have:k<sz h:=c
    omega
  ·rcases b.n j e with g | g
   ·exact a.n j g
   ·exact .inr (Aqp a.u.size g)
theorem GrG.ext (e:Ext h h'):GrG T T h h':=⟨e.upd _,Zdm.refl T,λ_ a=> .inl a⟩
theorem GrG.then (a:GrG T T' h h') (e:Ext h' h''):GrG T T' h h'':=⟨a.u.trans (e.upd _),a.s,a.n⟩
theorem GrG.pre (e:Ext h h') (a:GrG T T' h' h''):GrG T T' h h'':=⟨(e.upd _).trans a.u,a.s,λj b=>(a.n j b).imp id λg=>Aqp e.size g⟩
theorem GrG.new {S:Nat->Prop} (a:GrG T T' h h') (u:Upd S h' h'') (c:∀ j,S j->sz h<=j):GrG T T' h h'':=⟨⟨Aqp a.u.size u.size,λk b d=>(u.old k (Aqq b a.u.size) λe=>by have:=c k e;have:k<sz h:=b;omega).trans (a.u.old k b d)⟩,a.s,a.n⟩
theorem GrG.one {b:Nat} (c:T b≠none) (u:Upd (· = b) h h'):GrG T T h h':=⟨u.mono λj _ a=>by have:j=b:=a;rw [this];exact c,Zdm.refl T,λ_ a=> .inl a⟩
theorem GrG.tag {t:Tg} {S:Nat->Prop} (hT:∀ j,T j≠none->j<sz h) (u:Upd S h h') (b:∀ j,S j->T j≠none) {lo hi:Nat} (hl:sz h<=lo):GrG T (Zh5 T t lo hi) h h' :=
  ⟨u.mono λj _ a=>b j a,ZgD λj a=>Aqq (hT j a) hl,λj a=>by
    unfold Zh5 at a;split at a
    ·exact .inr (by omega)
    ·exact .inl a⟩
theorem GrG.old (a:GrG T T' h h') {j:Nat} (b:j<sz h) (c:T j=none):obj h' j=obj h j:=a.u.old j b λd=>d c
theorem Xa {j:Nat} {t:Tg} (h:T j=some t):T j≠none:=by rw [h];exact λe=>by cases e
theorem GrG.other {U:TgM} {M:Lay} {F:GS} (a:GrG T T' h h') (b:Zba h U M F) (hd:∀ j,T j≠none->U j=none):Zba h' U M F/\∀ j,T' j≠none->U j=none:=by
  refine ⟨b.frame a.u hd,λj c=>?_⟩
  rcases a.n j c with g | g
  ·exact hd j g
  ·cases q:U j with
   | none=>rfl
   | some t=>have:=Zby b.hT q;omega
end
theorem ZDH {α:Type} {a b:List α} {i:Nat} {x:α} (h:a.take i=b.take i) (c:a[i]?=some x) (d:b[i]?=some x):a.take (i+1)=b.take (i+1):=by
  rw [Aym,Aym,h,c,d]
theorem ZxU {s t:Sl} {l m:List (BL × Int)} {h:Zf} (hs:Row h s 2 (Rw.Zht l)) (k:Row h t 2 (Rw.Zht m)) (hl:l.length<=1000000) {K:Bool->Zf->Prop} (d:(l=m->K true h)/\(l≠m->K false h)):YY s t K h:=by
  unfold YY Xz;have la:=hs.len;have lb:=k.len;rw [Rw.ZnT] at la lb;refine Rw.ZqK (λn=>d.2 λe=>n (by rw [e] at la;omega)) λq=>?_;have hlen:l.length=m.length:=by omega
  refine Zbf (λ(p:Int × Unit) o=>o=h/\∃ i:Nat,p.1=(i:Int)/\i<=l.length/\l.take i=m.take i) (λp _=>((l.length:Int) - p.1).toNat) ⟨rfl,0,rfl,Ayg _,rfl⟩ ?_;rintro ⟨D,u⟩ o ⟨f,i,hi,v,g⟩ Q w;subst f;dsimp only at hi ⊢;subst hi;refine Zn (λx=>Za ?_) λy=>?_
  ·have a:i<l.length:=by omega
   obtain ⟨p,c⟩:∃ p,l[i]?=some p:=⟨_,Axy a⟩;obtain ⟨q,b⟩:∃ q,m[i]?=some q:=⟨_,Axy (by omega)⟩;refine Rw.ZqJ hs c rfl (Rw.ZqJ k b rfl ?_);rw [Rw.Zfq]
   by_cases e:p=q
   ·subst e
    refine Zi (by simp) ?_;rw [wrS a (by omega)];exact w _ _ ⟨rfl,i+1,rfl,a,ZDH g c b⟩ (by show ((l.length:Int) - ((i+1:Nat):Int)).toNat<((l.length:Int) - ((i:Nat):Int)).toNat;omega)
   ·refine Zl ?_ (d.2 λj=>e (by rw [j,b] at c;exact (Option.some.inj c).symm))
    obtain ⟨z,A⟩:=p;obtain ⟨B,C⟩:=q
    by_cases r:z=B
    ·subst r
     have j:¬ A=C:=λf=>e (by rw [f]);simp [j]
    ·simp [r]
  ·have:i=l.length:=by omega
   subst this;rw [Awd (Aqo _),Awd (by omega)] at g;exact d.1 g
theorem Zua {α β γ:Type} {f:α->β} {eq:β->Bool}:∀ {ws:List α} {us:List Bool} {i:Nat},pick (λa=>eq (f a)) ws us i=pick eq (ws.map f) us i
  | [],us,i=>by cases us<;>rfl
  | w::ws,[],i=>rfl
  | w::ws,u::us,i=>by
    show (if u=false/\eq (f w)=true then _ else _)=(if u=false/\eq (f w)=true then _ else _);rw [Zua (γ:=γ) (ws:=ws) (us:=us) (i:=i+1)]
theorem ZrQ {α β:Type} {f:α->β} {same:β->β->Bool} {c:List α}:∀ {now:List α} {us:List Bool},Zew (λa b=>same (f a) (f b)) c now us=Zew same (c.map f) (now.map f) us
  | [],_=>rfl
  | r::rs,us=>by
    show (pick (λb=>same (f r) (f b)) c us 0).1::Zew (λa b=>same (f a) (f b)) c rs (pick (λb=>same (f r) (f b)) c us 0).2=(pick (same (f r)) (c.map f) us 0).1::Zew same (c.map f) (rs.map f) (pick (same (f r)) (c.map f) us 0).2;rw [Zua (γ:=β),ZrQ]
theorem Zxe {a b:Zex} {x y:Sl} {h:Zf} (r:Row h x 2 (Rw.Zht a.items)) (t:Row h y 2 (Rw.Zht b.items)) (hl:a.items.length<=1000000) {K:Bool->Zf->Prop} (o:∀ h',Ext h h'->K (ZmI a b) h'):ZeF (Rw.ZFi x a) (Rw.ZFi y b) K h:=by
  have tr:a=b->ZmI a b=true:=λe=>(Znh a b).2 e;unfold ZeF Zhd;refine ZI λh1 c1 u v=>ZI λg f p w=>?_;have c:=Zj c1 p;have d:=u.trans p
  have no:a≠b->K false g:=λe=>by
    have:=o g d
    cases q:ZmI a b with
    | false=>rwa [q] at this
    | true=>exact absurd ((Znh a b).1 q) e
  have yes:a=b->K true g:=λe=>by
    have:=o g d;rwa [tr e] at this
  refine rS (n:=Zx a.res) (Zb c rfl) (rS (n:=Zx b.res) (Zb f rfl) ?_);rw [Rw.Zfq];refine Zn (λi=>?_) λi=>no λe=>i (by rw [e]);refine rI (n:=a.index) (Zb c rfl) (rI (n:=b.index) (Zb f rfl) (Z5 (λj=>?_) λj=>no λe=>j (by rw [e])));refine rI (n:=a.cnt) (Zb c rfl) (rI (n:=b.cnt) (Zb f rfl) (Z5 (λk=>?_) λk=>no λe=>k (by rw [e])));refine rI (n:=a.secs) (Zb c rfl) (rI (n:=b.secs) (Zb f rfl) (Z5 (λl=>?_) λl=>no λe=>l (by rw [e])));refine rL (s:=x) (Zb c rfl) (rL (s:=y) (Zb f rfl) (ZxU (r.ext d) (t.ext d) hl ⟨λm=>Zd (yes ?_),λm=>Zd (no λe=>m (by rw [e]))⟩));obtain ⟨z,A,a3,a4,a5⟩:=a;obtain ⟨b1,b2,B,b4,C⟩:=b;simp only at i j k l m;rw [i,j,k,l,m]
theorem Zvk {a b:Zex} {x y:Sl} {h:Zf} (ha:Row h x 2 (Rw.Zht a.items)) (hb:Row h y 2 (Rw.Zht b.items)) (hl:a.items.length<=1000000) {K:Bool->Zf->Prop} (n:∀ h',Ext h h'->K (ZmI a b) h'):XG (Rw.ZFi x a) (Rw.ZFi y b) K h:=by
  unfold XG Zcn;refine ZI λh1 c1 e1 z1=>ZI λh2 c2 U z2=>?_;have d:=Zj c1 U;refine rS (Zb d rfl) (rI (Zb d rfl) (rI (Zb d rfl) (rI (Zb d rfl) (rL (s:=x) (Zb d rfl) (ZI λh3 c3 V z3=>?_)))));have f:=Zj c2 V;refine rS (Zb f rfl) (rI (Zb f rfl) (rI (Zb f rfl) (rI (Zb f rfl) (rL (s:=y) (Zb f rfl) (ZI λh4 c4 W z4=>?_)))));have B:=Zj c3 W;unfold ZjD ZjM;refine ZI λh5 c5 C z5=>ZI λh6 o w z6=>?_;have g:=Zj c5 w;have D:=(V.trans W).trans (C.trans w);have l:=(e1.trans U).trans D;refine rL (s:=nl) (Zb g rfl) (rL (s:=nl) (Zb o rfl) ?_);unfold Xy XA;refine Zi rfl (Zbf (λp F=>p=(0,())/\F=h6) (λ_ _=>0) ⟨rfl,rfl⟩ ?_);rintro _ F ⟨rfl,G⟩ Q _;subst G;refine Zi rfl (Zl rfl (rL (s:=nl) (Zb g rfl) (rL (s:=nl) (Zb o rfl) ?_)));unfold Xj Xk;refine Zi rfl (Zbf (λp H=>p=(0,())/\H=F) (λ_ _=>0) ⟨rfl,rfl⟩ ?_);rintro _ H ⟨rfl,I⟩ Q _;subst I;refine Zi rfl (Zl rfl (rL (s:=nl) (Zb g rfl) (rL (s:=nl) (Zb o rfl) ?_)));unfold Xc Xd;refine Zi rfl (Zbf (λp z=>p=(0,())/\z=H) (λ_ _=>0) ⟨rfl,rfl⟩ ?_);rintro _ z ⟨rfl,J⟩ Q _;subst J;have fin:∀ (v:Bool) (r:Zf),v=ZmI a b->Ext h r->K v r:=λv r e L=>by rw [e];exact n r L
  refine Zi rfl (Zl rfl (rL (s:=⟨some ⟨sz h2,0,none⟩,1,1⟩) (Zb g rfl) (rL (s:=⟨some ⟨sz h3,0,none⟩,1,1⟩) (Zb o rfl) ?_)));unfold ZL ZM;have d3:=Zj B (C.trans w);have d4:=Zj c4 (C.trans w);refine Zi rfl (Zbf (λ(p:Int × Unit) hz=>(p.1=0/\hz=z)\/(p.1=1/\Ext z hz/\ZmI a b=true)) (λp _=>(1 - p.1).toNat) (.inl ⟨rfl,rfl⟩) ?_);rintro ⟨i,u⟩ hz (⟨m,M⟩ | ⟨m,N,hs⟩) Q hQ
  ·dsimp only at m ⊢
   subst m;subst M;have ix:∀ {A:Nat} {P:Nat->Nat->Prop},P A 0->YS (some ⟨A,0,none⟩) 1 0 5 P:=λ{A P} m=>⟨A,0,rfl,by decide,by decide,m⟩;refine Zl rfl (ix (rS (Zb d3 rfl) (rI (Zb d3 rfl) (rI (Zb d3 rfl) (rI (Zb d3 rfl) (rL (s:=x) (Zb d3 rfl) (ZI λh7 c7 e7 z7=>Za (Zbb c7 λX c8 u8 z8=>ix ?_))))))));have Y:Ext hz X:=e7.then u8 λk n=>by subst n;exact Aqo _
   have d48:=Zj d4 Y;refine rS (Zb d48 rfl) (rI (Zb d48 rfl) (rI (Zb d48 rfl) (rI (Zb d48 rfl) (rL (s:=y) (Zb d48 rfl) (ZI λr c9 L z9=>Zbb c9 λO j R aw=>?_)))));have t:Ext X O:=L.then R λk n=>by subst n;exact Aqo _
   have c:=Zj c8 t;refine rS (Zb c rfl) (rI (Zb c rfl) (rI (Zb c rfl) (rI (Zb c rfl) (rL (s:=x) (Zb c rfl) (rS (Zb j rfl) (rI (Zb j rfl) (rI (Zb j rfl) (rI (Zb j rfl) (rL (s:=y) (Zb j rfl) (?_))))))))));have E:=Y.trans t;refine Zxe (ha.ext (l.trans E)) (hb.ext (l.trans E)) hl λax S=>?_;have Z:=E.trans S
   cases q:ZmI a b with
   | true=>exact Zi rfl (hQ _ _ (.inr ⟨rfl,Z,q⟩) (show (1 - IntKind.wrap .i64 (0+1)).toNat<(1 - (0:Int)).toNat by decide))
   | false=>exact Zl rfl (Zi rfl (Zd (fin _ _ q.symm (l.trans Z))))
  ·dsimp only at m ⊢
   subst m;refine Zi rfl (Zl rfl (rL (s:=nl) (Zb (Zj g N) rfl) (rL (s:=nl) (Zb (Zj o N) rfl) ?_)));unfold Zv Zw;refine Zi rfl (Zbf (λp hw=>p=(0,())/\hw=hz) (λ_ _=>0) ⟨rfl,rfl⟩ ?_);rintro _ hw ⟨rfl,T⟩ Q _;subst T;exact Zi rfl (Zd (Zd (fin _ _ hs.symm (l.trans N))))
theorem ZEh {h:Zf} {s w:Sl} {A B:List (Sl × Zex)} (hs:Row h s 5 (A.flatMap Rw.Zlr)) (hw:Row h w 5 (B.flatMap Rw.Zlr)) (hi:∀ p,p∈A\/p∈B->Row h p.1 2 (Rw.Zht p.2.items)/\p.2.items.length<=1000000) (F:A.length<=256) (G:B.length<=256) {K:Sl->Zf->Prop} (q:∀ h' t,Ext h h'->Own h' (sz h) t 1 ((Zew ZmI (B.map (·.2)) (A.map (·.2)) (List.replicate B.length false)).map iv)->K t h'):Yl s w K h:=by
  unfold Yl YR;rw [<- ZrQ] at q
  refine ZxT (g:=Rw.Zlr) (n:=5) (T:=134) (same:=λa b=>ZmI a.2 b.2) (λ_=>rfl) (by decide) hs hw F G
    (ld1:=λb o h3 Q=>ldS h3 b o λt0=>ldI h3 b (o+1) .i64 λt1=>ldI h3 b (o+2) .i64 λt2=>ldI h3 b (o+3) .i64 λt3=>ldL h3 b (o+4) λt4=>newC h3 [Value.string (ByteArray.mk #[]),iv 0,iv 0,iv 0,Value.slice none 0 0] 134 λj l=>sts l j 0 [Value.string t0,iv t1,iv t2,iv t3,Value.slice t4.ptr t4.len t4.cap] λm=>Q j m)
    (ld2:=λb o h3 u Q=>ldS h3 b o λt0=>ldI h3 b (o+1) .i64 λt1=>ldI h3 b (o+2) .i64 λt2=>ldI h3 b (o+3) .i64 λt3=>ldL h3 b (o+4) λt4=>newC h3 [Value.string (ByteArray.mk #[]),iv 0,iv 0,iv 0,Value.slice none 0 0] 134 λj l=>Zc u λi=>sts l j 0 [Value.string t0,iv t1,iv t2,iv t3,Value.slice t4.ptr t4.len t4.cap] λm=>Q j i m)
    (cmp:=λc d f Q=>ldS f c 0 λH=>ldI f c (0+1) .i64 λI=>ldI f c (0+2) .i64 λJ=>ldI f c (0+3) .i64 λL=>ldL f c (0+4) λM=>ldS f d 0 λN=>ldI f d (0+1) .i64 λO=>ldI f d (0+2) .i64 λP=>ldI f d (0+3) .i64 λR=>ldL f d (0+4) λS=>XG (H,I,J,L,M,()) (N,O,P,R,S,()) Q f) ?_ ?_ ?_ q
  ·intro a U o f Q e r
   exact rS (e 0 _ rfl) (rI (e 1 _ rfl) (rI (e 2 _ rfl) (rI (e 3 _ rfl) (rL (s:=a.1) (e 4 _ rfl) (ZI λh1 c1 v V=>Zbb c1 λz C D W=>r z _ (v.then D λk q=>by subst q;exact Aqo _) (Aqo _) C)))))
  ·intro a U o f i Q e r
   exact rS (e 0 _ rfl) (rI (e 1 _ rfl) (rI (e 2 _ rfl) (rI (e 3 _ rfl) (rL (s:=a.1) (e 4 _ rfl) (ZI λh1 c1 v V=>Za (Zbb c1 λz C D W=>r z _ (v.then D λk q=>by subst q;exact Aqo _) C))))))
  ·intro a b c d f Q E X he e hd r
   refine rS (Zb e rfl) (rI (Zb e rfl) (rI (Zb e rfl) (rI (Zb e rfl) (rL (s:=a.1) (Zb e rfl) (rS (Zb hd rfl) (rI (Zb hd rfl) (rI (Zb hd rfl) (rI (Zb hd rfl) (rL (s:=b.1) (Zb hd rfl) (Zvk (x:=a.1) (y:=b.1) ((hi a (.inl E)).1.ext he) ((hi b (.inr X)).1.ext he) (hi a (.inl E)).2 r))))))))))
theorem ZnW {KL:List Int} {kt:Sl} {body:Int->Int->Zf->(Zf->Prop)->Prop} {K:Zf->Prop} {h:Zf} (Inv:Nat->Zf->Prop) (hl:KL.length<=1000000)
    (e:∀ m hh,Inv m hh->Row hh kt 1 (KL.map iv)) (h0:Inv 0 h) (hs:∀ (m:Nat) k hh (Q:Zf->Prop),KL[m]?=some k->Inv m hh->(∀ h',Inv (m+1) h'->Q h')->body m k hh Q) (he:∀ hh,Inv KL.length hh->K hh) :
    Yj (σ:=Int × Unit) (λJ s hh=>(λ(i:Int)=>Zm (decide (i<(kt.len:Int))) (YS kt.ptr kt.len i 1 λb o=>ldI hh b o .i64 λt=>body i t hh (λh'=>J (IntKind.wrap .i64 (i+1),()) h')) (K hh)) s.1) (0,()) h:=by
  refine Zbf (λ(p:Int × Unit) hh=>∃ m:Nat,p=((m:Int),())/\m<=KL.length/\Inv m hh) (λp _=>((KL.length:Int) - p.1).toNat) ⟨0,rfl,Ayg _,h0⟩ ?_;rintro _ hh ⟨m,rfl,hm,hi⟩ Q f;dsimp only;have r:=e m hh hi;have g:=r.len;simp only [Ayv,Aqv] at g;refine Zn (λq=>?_) λq=>?_
  ·have a:m<KL.length:=by omega
   have c:KL[m]?=some KL[m]:=Axy a;generalize KL[m]=k at c;refine r.idx (i:=(m:Int)) (n:=m) rfl (v:=iv k) (by rw [Awy,c];rfl) λb o _ j=>⟨k,j,?_⟩;refine hs m k hh _ c hi λh' d=>?_;rw [wrS a (by omega)];exact f _ _ ⟨m+1,rfl,a,d⟩ (by show ((KL.length:Int) - ((m+1:Nat):Int)).toNat<((KL.length:Int) - ((m:Nat):Int)).toNat;omega)
  ·have:m=KL.length:=by omega
   subst this;exact he hh hi
structure ZsA {σ:Type} (hA:Zf) (b12:Nat) (mk:Sl->Obj) (n:Nat) (gV:σ->List Value) (hd:σ->List Nat) (P:Zf->TgM->σ->Prop) (old:List σ) (T:TgM) (KL:List Int) (m:Nat) (hh:Zf) (s:Sl) (done:List σ) (T':TgM):Prop where
  u:Upd (· = b12) hA hh
  c:obj hh b12=some (mk s)
  o:Own hh (sz hA) s n (done.flatMap gV)
  l:done.length=m
  sel:Sel hd old KL (sz hA) (sz hh) done
  sub:Zdm T T'
  new:∀ j,T' j≠none->T j≠none\/(sz hA<=j/\j<sz hh)
  sb:∀ b,s.blk=some b->T' b=none
  b:T' b12=none
  e:∀ (i:Nat) (x:σ),done[i]?=some x->P hh T' x
def ZpX {σ:Type} (P:Zf->TgM->σ->Prop):Prop:=∀ {a b:Zf} {U c:TgM} {x:σ},P a U x->Zdj (λ_=>False) U a b->Zdm U c->sz a<=sz b->P b c x
section
variable {σ:Type} {hA hh:Zf} {b12:Nat} {mk:Sl->Obj} {n:Nat} {gV:σ->List Value} {hd:σ->List Nat} {P:Zf->TgM->σ->Prop} {old:List σ} {T T':TgM} {KL:List Int} {m:Nat} {s:Sl} {done:List σ}
theorem ZsA.add (I:ZsA hA b12 mk n gV hd P old T KL m hh s done T') (G:ZpX P) (hT:∀ j,T j≠none->j<sz hA) (K:b12<sz hA) {h1 d h3:Zf} {mk':Sl->Obj} {s':Sl} {x:σ} {T'':TgM} (B:Upd (· = b12) hh h1) (L:Own d (sz hA) s' n (done.flatMap gV++gV x)) (C:Upd (λk=>s.blk=some k) h1 d)
    (M:obj h3 b12=some (mk' s')) (z:Upd (· = b12) d h3) (D:s'.blk=s.blk\/s'.blk=some (sz h1)) (p:Sel hd old KL (sz hA) (sz h1) (done++[x])) (sub:Zdm T' T'') (new:∀ j,T'' j≠none->T' j≠none\/(sz hh<=j/\j<sz h1)) (H:∀ b,s.blk=some b->T'' b=none) (r:T'' b12=none) (N:P h1 T'' x) :
    ZsA hA b12 mk' n gV hd P old T KL (m+1) h3 s' (done++[x]) T'':=by
  have w0:sz hA<=sz hh:=I.u.size;have w1:sz hh<=sz h1:=B.size;have v:sz h1<=sz d:=C.size;have A:sz d<=sz h3:=z.size
  have w:Zdj (λ_=>False) T'' h1 h3:=λj t a _=>by
    have f:j<sz h1:=by
      rcases new j (Xa a) with g | g
      ·rcases I.new j g with g | g
       ·have:=hT j g;omega
       ·omega
      ·exact g.2
    have O:¬ s.blk=some j:=λe=>by rw [H j e] at a;cases a
    have Q:¬ j=b12:=λe=>by rw [e,r] at a;cases a
    exact (z.old j (Aqq f v) Q).trans (C.old j f O)
  have E:Zdj (λ_=>False) T' hh h3:=λj t a hd=>by
    have f:j<sz hh:=by
      rcases I.new j (Xa a) with g | g
      ·have:=hT j g;omega
      ·exact g.2
    exact (w j t (sub.to a) hd).trans (B.old j f λe=>by rw [e,I.b] at a;cases a)
  refine ⟨?_,M,?_,by rw [Awe,I.l];rfl,p.top (Aqp v A),I.sub.trans sub,λj f=>?_,λb c=>?_,r,λi y R=>?_⟩
  ·refine ⟨Aqp I.u.size (Aqp w1 (Aqp v A)),λk J F=>?_⟩
   have S:k<sz hA:=J;refine (z.old k (show k<sz d by omega) F).trans ((C.old k (show k<sz h1 by omega) λe=>?_).trans ((B.old k (show k<sz hh by omega) F).trans (I.u.old k J F)));have:=(I.o.lt e).1;omega
  ·rw [Ayl]
   have:=Zsu L z K;simpa using this
  ·rcases new j f with g | g
   ·rcases I.new j g with g | g
    ·exact .inl g
    ·exact .inr ⟨g.1,by omega⟩
   ·exact .inr ⟨by omega,by omega⟩
  ·rcases D with e | e
   ·exact H b (e▸c)
   ·rw [e] at c
    cases c
    cases q:T'' (sz h1) with
    | none=>rfl
    | some t =>
      rcases new _ (Xa q) with g | g
      ·rcases I.new _ g with g | g
       ·have:=hT _ g;omega
       ·omega
      ·omega
  ·rcases Zq2 R with h | ⟨_,h⟩
   ·exact G (I.e i y h) E sub (Aqp w1 (Aqp v A))
   ·subst h;exact G N w (Zdm.refl _) (Aqp v A)
theorem ZsA.keepOld (I:ZsA hA b12 mk n gV hd P old T KL m hh s done T') (c:ZpX P) (hT:∀ j,T j≠none->j<sz hA) {k:Nat} {x:σ} (_:old[k]?=some x) (d:P hA T x):P hh T' x :=
  c d (λj t a _=>I.u.old j (Zby hT a) λe=>by
   have:=I.sub.to a;rw [e,I.b] at this
   cases this) I.sub I.u.size
end
abbrev ZHy (eb b8 b12:Nat):Int->Int->Zf->(Zf->Prop)->Prop:=λp t25 a Q=>Zc p λk=>  Zc t25 λi=>  Zm (decide (i>=0)) ( ldL a b12 0 λt26=>  ldL a b8 0 λt27=>  YS t27.ptr t27.len i 2 λl m=>  ldP a l m λt30=>ldP a l (m+1) λt31=>  newC a [.pointer t30,.pointer t31] 126 λq d=>  Zu (Zo d [(b8,0,.slice t27.ptr t27.len t27.cap)]) <| Zu (Zo d [(b12,0,.slice t26.ptr t26.len t26.cap)]) <| rdS ⟨some ⟨q,0,none⟩,1,1⟩ 2 d λnew=>app 126 2 16 [.pointer none,.pointer none] t26 1 new d λt34 n=>  Zu (Zo n [(b8,0,.slice t27.ptr t27.len t27.cap)]) <| st n b12 0 (.slice t34.ptr t34.len t34.cap) λr=>  Q r) ( Ze (some ⟨eb,0,none⟩) λe f=>  ldL a b12 0 λt39=>  ldL a e (f+3) λt40=>  YS t40.ptr t40.len k 12 λb c=>  ldS a b c λt43=>ldS a b (c+1) λt44=>ldB a b (c+2) λt45=>ldI a b (c+3) .i64 λt46=>ldI a b (c+4) .u8 λt47=>ldS a b (c+5) λt48=>ldI a b (c+6) .u8 λt49=>ldI a b (c+7) .i64 λt50=>ldI a b (c+8) .i64 λt51=>ldB a b (c+9) λt52=>ldI a b (c+10) .i64 λt53=>ldB a b (c+11) λt54=>  Zbv (t43,t44,t45,t46,t47,t48,t49,t50,t51,t52,t53,t54,()) (λt55 h=>Zu (Zo h [(e,f+3,.slice t40.ptr t40.len t40.cap)]) <| Zu (Zo h [(b12,0,.slice t39.ptr t39.len t39.cap)]) <| newC h [.pointer t55.1,.pointer t55.2.1] 126 λs g=>  Zu (Zo g [(e,f+3,.slice t40.ptr t40.len t40.cap)]) <| Zu (Zo g [(b12,0,.slice t39.ptr t39.len t39.cap)]) <| rdS ⟨some ⟨s,0,none⟩,1,1⟩ 2 g λj=>app 126 2 16 [.pointer none,.pointer none] t39 1 j g λt59 o=>  Zu (Zo o [(e,f+3,.slice t40.ptr t40.len t40.cap)]) <| st o b12 0 (.slice t59.ptr t59.len t59.cap) λt=>  Q t) a)
abbrev mkF (g:Int) (s:Sl):Obj:= .cells [slV s,slV nl,slV nl,iv g].toArray 78 (0,0)
abbrev PF (h:Zf) (T:TgM) (x:ShP × ShS):Prop:=ShR h (hdT T) x.1 x.2
theorem Zyc:ZpX PF:=λa k s _=>Znf k s a λ_ _=>id
abbrev ZIl (hA:Zf) (b12:Nat) (g:Int):=ZsA hA b12 (mkF g) 2 (λx:ShP × ShS=>shL x.1) (λx=>hdP x.1) PF
def ZFf (T:TgM) (lo hi:Nat):TgM:=λj=>if lo<=j/\j<hi then some (.p j) else T j
theorem ZAx {T:TgM} {lo hi:Nat} (hT:∀ j,T j≠none->j<lo):Zdm T (ZFf T lo hi):=λj a=>if_neg λh=>by have:=hT j a;omega
theorem ZDK {T:TgM} {lo hi j:Nat} (h:ZFf T lo hi j≠none):T j≠none\/(lo<=j/\j<hi):=by
  unfold ZFf at h;split at h
  ·rename_i q;exact .inr q
  ·exact .inl h
theorem Zpx {h:Zf} {O:Nat->Prop} {p:ShP} {x:ShS} (s:ShR h O p x):(hdP p).Nodup/\∀ b,b∈hdP p->O b:=by
  obtain ⟨n,g⟩:=p;obtain ⟨t,o⟩:=x;obtain ⟨a,b⟩:=s
  cases t with
  | none =>
    have i:n=none:=a;subst i
    cases o with
    | none =>
      have d:g=none:=b;subst d;exact ⟨List.nodup_nil,λb c=>by cases c⟩
    | some w =>
      obtain ⟨b2,d,j,k⟩:=b;have f:g=some ⟨b2,0,none⟩:=d;subst f;exact ⟨by simp [hdP,Ztz],λb c=>by simp [hdP,Ztz] at c;subst c;exact k⟩
  | some q =>
    obtain ⟨b1,i,c1,r⟩:=a;have l:n=some ⟨b1,0,none⟩:=i;subst l
    cases o with
    | none =>
      have d:g=none:=b;subst d;exact ⟨by simp [hdP,Ztz],λb c=>by simp [hdP,Ztz] at c;subst c;exact r⟩
    | some w =>
      obtain ⟨b2,d,j,k⟩:=b;have f:g=some ⟨b2,0,none⟩:=d;subst f
      have m:b1≠b2:=λe=>by
        subst e;rw [c1] at j;simp [pcL,wmL] at j
      exact ⟨by simpa [hdP,Ztz] using m,λb c=>by
        simp [hdP,Ztz] at c
        rcases c with rfl | rfl
        ·exact r
        ·exact k⟩
section
variable {hA hh:Zf} {eb sb tb fm b8 b12 m:Nat} {G:GS} {z:Rw.VTR} {f1 b1 h1 s:Sl} {g0 g k:Int} {T T':TgM} {old done:List (ShP × ShS)} {KL:List Int} {A:List FlowP} {f:FlowP}
theorem ZNY
    (ce:obj hA eb=some (geO G sb tb fm z f1 b1 h1)) (c8:obj hA b8=some (.cells [slV f1,slV b1,slV h1,iv g0].toArray 78 (0,0))) (n8:b8≠b12) (ne:eb≠b12) (hb:b12<sz hA) (hT:∀ j,T j≠none->j<sz hA) (ho:(old.flatMap λx=>hdP x.1).Nodup) (J:∀ b,b∈(old.flatMap λx=>hdP x.1)->b<sz hA)
    (hK:∀ {i j k:Nat},KL[i]?=some (k:Int)->KL[j]?=some (k:Int)->i=j) (av:KL.length<=256) (hk:KL[m]?=some k) (R:k = -1\/∃ (j:Nat) (x:ShP × ShS),k=(j:Int)/\old[j]?=some x)
    (hz:Row hA z.1 12 (A.flatMap Rw.Zfj)) (S:z.1.len≠0->z.1.blk≠some b12) (U:Row hA f1 2 (old.flatMap λx=>shL x.1)) (V:f1.len≠0->f1.blk≠some b12) (X:∀ (i:Nat) x,old[i]?=some x->PF hA T x) (he:f.err=0) (hf:A[m]?=some f)
    (I:ZIl hA b12 g old T KL m hh s done T') {Q:Zf->Prop} (hQ:∀ h' s' x T'',ZIl hA b12 g old T KL (m+1) h' s' (done++[x]) T''->x.2=Zji ShS.new (old.map (·.2)) k f->Q h'):ZHy eb b8 b12 m k hh Q:=by
  have w0:sz hA<=sz hh:=I.u.size;have ml:m<KL.length:=Zbz hk;have sl:s.len=m:=by have:=Zao (g:=λx:ShP × ShS=>shL x.1) (λ_=>rfl) I.o.row (by decide);rw [I.l] at this;exact this
  have y:=YZ ce I.u ne;have C:=YZ c8 I.u n8
  have fin:∀ {h1 d:Zf} {p:ShP} {x:ShS} {T'':TgM},Upd (· = b12) hh h1->Ext h1 d->Sel (λx:ShP × ShS=>hdP x.1) old KL (sz hA) (sz h1) (done++[(p,x)])->Zdm T' T''->(∀ j,T'' j≠none->T' j≠none\/(sz hh<=j/\j<sz h1))->(∀ b,s.blk=some b->T'' b=none)->T'' b12=none->PF h1 T'' (p,x)->x=Zji ShS.new (old.map (·.2)) k f->sz d=sz h1+1->obj d b12=some (mkF g s) ->
      ∀ {W:Sl->Zf->Prop},(∀ s' h3,(∀ {vs},obj d b8=some vs->obj h3 b8=some vs)->(∀ {vs},obj d eb=some vs->obj h3 eb=some vs)->st h3 b12 0 (.slice s'.ptr s'.len s'.cap) Q->W s' h3)->app 126 2 16 [.pointer none,.pointer none] s 1 (shL p) d W:=λ{h1 d p x T''} Y h K sub new nb Z D hp P L {W} hW=>by
    have w1:sz hh<=sz h1:=Y.size;have o2:Own d (sz hA) s 2 (done.flatMap λx=>shL x.1):=(I.o.congr (h':=h1) λb q E aa=>Y.old b E (by have:sz hA<=b:=aa;show ¬ b=b12;omega)).congr λb q E _=>h.old b E;refine o2.app (n:=1) rfl rfl rfl (by omega) (by omega) (by show sz hA<=sz d;omega) λs' h3 o3 l3 u3 b3=>?_;have keep:∀ {j:Nat} {vs:Obj},j<sz hA->obj d j=some vs->obj h3 j=some vs:=λ{j vs} r hv=>(u3.old j (Zp hv) λe=>by have:=(I.o.lt e).1;omega).trans hv;refine hW s' h3 (λhv=>keep (Zp c8) hv) (λhv=>keep (Zp ce) hv) (Zbg (keep hb L) (show 0<4 by decide) rfl λh4 c4 u4 z4=>hQ h4 s' (p,x) T'' ?_ hp);have w2:sz h1<=sz d:=h.size;refine (show ZIl hA b12 g old T KL (m+1) h4 s' (done++[(p,x)]) T'' from ?_);refine ZsA.add (h1:=d) I Zyc hT hb (Y.trans (h.upd _)) o3 u3 c4 u4 (b3.imp id id) (K.top w2) sub (λj r=>(new j r).imp id λh9=>⟨h9.1,by omega⟩) nb Z (Znf (x:=x) (λj t ht _=>h.old j ?_) (Zdm.refl T'') D λ_ _=>id)
    rcases new j (Xa ht) with w | w
    ·rcases I.new j w with w | w
     ·have:=hT j w;show j<sz h1;omega
     ·show j<sz h1;omega
    ·exact w.2
  refine Za (Za ?_)
  rcases R with F | ⟨j,x,F,D⟩
  ·subst F
   obtain ⟨bb,oo,_,_,v,a⟩:=ZbD Zgc (Zdo hz S I.u) hf (by decide);refine Zi rfl (Zg (rL (s:=s) (Zb I.c rfl) (rL (s:=z.1) (Zb y rfl) (v rfl (rS (a 0 _ rfl) (rS (a 1 _ rfl) (rB (a 2 _ rfl) (rI (a 3 _ rfl) (rI (a 4 _ rfl) (rS (a 5 _ rfl) (rI (a 6 _ rfl) (rI (a 7 _ rfl) (rI (a 8 _ rfl) (rB (a 9 _ rfl) (rI (a 10 _ rfl) (rB (a 11 _ rfl) (Ztc he λh1 p O H hO M=>?_)))))))))))))))));have w1:sz hh<=sz h1:=M.size;refine ⟨ZZ (Zb (Zj y M) rfl),ZZ (Zb (Zj I.c M) rfl),ZI λd L h P=>?_⟩;have B:=M.trans h
   have ag:∀ j,T' j≠none->j<sz hh:=λj r=>by
     rcases I.new j r with w | w
     ·have:=hT j w;omega
     ·exact w.2
   obtain ⟨nd,ah⟩:=Zpx H;refine ⟨ZZ (Zb (Zj y B) rfl),ZZ (Zb (Zj I.c B) rfl),(Zj4 L rfl).rd ?_⟩;refine fin (p:=p) (x:=ShS.new f) (T'':=ZFf T' (sz hh) (sz h1)) (M.upd _) h (I.sel.new J (by show sz hA<=sz hh;exact w0) w1 nd λb q=>hO b (ah b q)) (ZAx ag) (λj r=>ZDK r) (λb q=>?_) ?_ ⟨H.1.congr (λj r hl=>?_) (λ_ _ _=>rfl),H.2.congr (λj r hl=>?_) (λ_ _ _=>rfl)⟩ ?_ P (Zj I.c B) λs' h3 k1 k2 hs=>⟨ZZ (Zb (k2 (Zj y B)) rfl),hs⟩
   ·have h9:=(I.o.lt q).2
    have:b<sz hh:=h9;unfold ZFf;rw [if_neg (by omega)];exact I.sb b q
   ·unfold ZFf
    rw [if_neg (by omega)];exact I.b
   ·exact if_pos (hO j r)
   ·exact if_pos (hO j r)
   ·unfold Zji
    rw [if_neg (by decide)]
  ·subst F
   have N:=Zdo U V I.u;obtain ⟨bb,oo,_,_,v,a⟩:=ZbD (g:=λx:ShP × ShS=>shL x.1) (n:=2) (λ_=>rfl) N D (by decide);refine Zl (by simp) (rL (s:=s) (Zb I.c rfl) (rL (s:=f1) (Zb C rfl) (v rfl (rP (a 0 _ rfl) (rP (a 1 _ rfl) (ZI λd L h P=>⟨ZZ (Zb (Zj C h) rfl),ZZ (Zb (Zj I.c h) rfl),(Zj4 L rfl).rd ?_⟩))))));refine fin (p:=x.1) (x:=x.2) (T'':=T') (Upd.refl _ _) h (I.sel.keep ho J hK (by rw [I.l];exact hk) D) (Zdm.refl T') (λj r=> .inl r) I.sb I.b (ZsA.keepOld I Zyc hT D (X j x D)) ?_ P (Zj I.c h) λs' h3 k1 k2 hs=>⟨ZZ (Zb (k1 (Zj C h)) rfl),hs⟩;unfold Zji;rw [if_pos (by omega),Aqu,Awy,D];rfl
end
end Go.Proofs.YthbfgkphlmlihaaGreat
