/- Hot parameters: New of a rule that is right. -/
import Derived.Test.YthbfgkphlmlihaaGreatPa13
set_option linter.unusedVariables false
set_option linter.unusedSimpArgs false
namespace Go.Proofs.YthbfgkphlmlihaaGreat
open Go Go.Fw Go.Js
def ZH8 (p:BL × Int):KI:=(Zx p.1,p.2)
theorem Zqy (l:List (BL × Int)):(l.map ZH8).flatMap kiL=Rw.Zhr l:=by
  unfold Rw.Zhr
  induction l with
  | nil=>rfl
  | cons a l b=>rw [Awo,Aye,Aye,b];rfl
theorem Zmt {h:Zf} {s:Sl} {l:List KI} (hs:Row h s 2 (l.flatMap kiL)) (hl:l.length<=1000000) {K:Sl->Zf->Prop}
    (i:∀ t h',Own h' h.size t 2 (l.flatMap kiL)->Ext h h'->K t h'):Z1 s K h:=by
  unfold Z1 XA;have d:=Zan Zqz hs (by decide);refine ⟨fun q=>?_,fun q=>?_⟩
  ·rcases hs.at_ with h0 | ⟨b,o,j,r⟩
   ·have:l=[]:=Aqr (by omega)
    subst this;exact i _ _ (Own.nil _ _ _) (Ext.refl h)
   ·rw [j] at q;cases q
  ·rw [Ziv]
   have e:Ext h (h.push (.cells ([]:List Value).toArray 212 (0,0))):=Ext.push _ _;refine (hs.ext e).rd ?_;have ho:Own (h.push (.cells ([]:List Value).toArray 212 (0,0))) h.size ⟨some ⟨sz h,0,none⟩,0,0⟩ 2 []:=⟨rfl,Aqo _,(by show 0<9223372036854775808;decide),.inr ⟨sz h,#[],212,rfl,Aqo _,Zc6,rfl,rfl⟩⟩
   have a:(l.flatMap kiL).all Zr=true:=by
     rw [Axb];intro v hv;obtain ⟨t,_,hv⟩:=List.mem_flatMap.1 hv;exact Axb.1 (ZD6 t) v hv
   refine Own.app ho (by rw [YV Zqz,d]) a rfl (by show (0+s.len)*24<=140737488355328;omega) (by show 0+s.len<=140737488355328;omega) (show h.size<=_ from e.size) fun t m f n g p=>?_;refine i t m ?_ (e.then g fun k c=>?_)
   ·simpa using f
   ·simp [Sl.blk] at c
    rw [YO,<- c];exact Aqo _
def HtS.new (f:Zev) (most seed:Int):HtS:=⟨Zx f.res,f.index,f.cnt,f.secs,f.items.map ZH8,most,[],fun _=>⟨0,fun _=>z6⟩,Sk.new (f.secs*100000) seed,0⟩
theorem Zub {f:Zev} (he:f.err=0):(1<=f.secs/\f.secs<=60)/\f.items.length<=32:=by
  unfold Zev.err at he;split at he
  ·split at he
   ·rename_i _ a
    unfold Zev.good Js.inJ at a;simp only [Awn,decide_eq_true_eq] at a;omega
   ·cases he
  ·cases he
theorem ZyO {f:Zev} (he:f.err=0) (hl:f.res.length<9223372036854775807) {most seed:Int} (hm:1<=most/\most<=4096) {h:Zf} {x:Sl} (X:Row h x 2 (Rw.Zhr f.items)) {K:Option Addr->Int->Zf->Prop}
    (hk:∀ h' p T,HtR h' p T (HtS.new f most seed)->(∀ j,T j≠none->sz h<=j)->Ext h h'->K (some ⟨p,0,none⟩) 0 h'):ZjB (Rw.ZE6 x f) most seed K h:=by
  obtain ⟨hs,hi⟩:=Zub he;unfold ZjB ZnY;refine ZJ fun h1 c1 Y z1=>Za (rS (Zb c1 rfl) (rI (Zb c1 rfl) (rI (Zb c1 rfl) (rI (Zb c1 rfl) (rL (Zb c1 rfl) (Rw.ZnS (f:=f) (x:=x) hl (by omega) (X.ext Y) fun c J=>Za ?_))))));rw [he];refine Zi rfl (ZyL hm fun h3 Z e3=>Za (Zi rfl ?_));have c3:=Zj (Zj c1 J) e3;have B:=(Y.trans J).trans e3;refine rL (Zb c3 rfl) (Zmt (l:=f.items.map ZH8) (by rw [Zqy];exact X.ext B) (by rw [Ayv];omega) fun t i o4 G=>?_);have c4:=Zj c3 G;refine Zbf c4 (show 0+4<5 by decide) Zbp fun g C u5 z5=>?_;refine rS (Zb C rfl) (rI (Zb C rfl) (rI (Zb C rfl) (rI (Zb C rfl) (rL (Zb C rfl) (ZmW.new fun q m6 e6 L=>ZJ fun M w N z7=>?_)))));refine rS (Zb w rfl) (rI (Zb w rfl) (rI (Zb w rfl) (rI (Zb w rfl) (rL (Zb w rfl) (ZoR hs fun o D=>?_)))));rw [show f.secs*1000000=f.secs*100000*10 by omega];refine Zvs (d:=f.secs*100000) (by omega) fun z s9 H z9=>?_;have c9:=Zj (Zj w D) H;refine Zbf c9 (show 0+7<9 by decide) rfl fun m O r P=>Za (Za ?_);have b1:sz h1=sz h+1:=z1;have aw:sz h1<=sz c:=J.size
  have ax:sz c+2<=sz h3:=by
    have z:=Z.ex;obtain ⟨nd,mb,pv,nx,f9,_,hM⟩:=z;exact hM.lt _ hM.os
  have ay:sz h3<=sz i:=G.size;have az:sz g=sz i:=z5;have aA:sz q=sz g+1:=L;have aB:sz M=sz q+1:=z7;have aC:sz M<=sz o:=D.size;have aD:sz z=sz o+1:=z9;have aE:sz m=sz z:=P;have aF:h3.size=sz h3:=rfl;have aG:i.size=sz i:=rfl;have aH:g.size=sz g:=rfl;have aI:q.size=sz q:=rfl;have u:=fun (b:Nat) (p:t.blk=some b)=>o4.lt p
  have kp:∀ (j:Nat) {y:Obj},sz c<=j->obj i j=some y->obj m j=some y:=fun j {y} a A=>by
    have l4:=Zp A;have I:obj g j=some y:=YZ A u5 (by have:h.size=sz h:=rfl;omega);exact YZ (Zj (Zj (Zj (Zj I e6) N) D) H) r (by omega)
  have kq:∀ j,sz c<=j->j<sz i->obj m j=obj i j:=fun j a Q=>by
    cases A:obj i j with
    | none =>
      have:j<i.size:=Q;rw [show obj i j=i[j]? from rfl,Array.getElem?_eq_getElem this] at A;cases A
    | some y=>exact kp j a A
  let T:Nat->Option HTag:=fun j=>if j=sz q then some .me else if j=sz g then some .map else if j=sz o then some .sk else if j=sz c\/j=sz c+1 then some .lru else if t.blk=some j then some .items else none
  have R:T (sz q)=some .me:=if_pos rfl;have E:T (sz g)=some .map:=by show (if _ then _ else _)=_;rw [if_neg (by omega),if_pos rfl]
  have S:T (sz o)=some .sk:=by show (if _ then _ else _)=_;rw [if_neg (by omega),if_neg (by omega),if_pos rfl]
  have F:∀ j,j=sz c\/j=sz c+1->T j=some .lru:=fun j a=>by show (if _ then _ else _)=_;rw [if_neg (by omega),if_neg (by omega),if_neg (by omega),if_pos a]
  have U:∀ b,t.blk=some b->T b=some .items:=fun b p=>by
    have:=u b p;show (if _ then _ else _)=_;rw [if_neg (by omega),if_neg (by omega),if_neg (by omega),if_neg (by omega),if_pos p]
  have s:∀ j,T j≠none->sz h<=j/\j<sz m:=fun j a=>by
    by_cases q1:j=sz q
    ·omega
    by_cases q2:j=sz g
    ·omega
    by_cases q3:j=sz o
    ·omega
    by_cases v:j=sz c\/j=sz c+1
    ·omega
    by_cases I:t.blk=some j
    ·have:=u j I;omega
    ·exfalso
     apply a;show (if _ then _ else _)=_;rw [if_neg q1,if_neg q2,if_neg q3,if_neg v,if_neg I]
  have V:∀ j,T j=some .lru->j=sz c\/j=sz c+1:=fun j a=>by
    by_cases v:j=sz c\/j=sz c+1
    ·exact v
    ·exfalso
     change (if _ then _ else _)=_ at a;rw [if_neg v] at a;split at a
     ·cases a
     ·split at a
      ·cases a
      ·split at a
       ·cases a
       ·split at a<;>cases a
  have an:∀ j,T j=some .sk->j=sz o:=fun j a=>by
    by_cases v:j=sz o
    ·exact v
    ·exfalso
     change (if _ then _ else _)=_ at a;rw [if_neg v] at a;split at a
     ·cases a
     ·split at a
      ·cases a
      ·split at a
       ·cases a
       ·split at a<;>cases a
  have W:=(((m6.congr (N.old _ m6.lt)).congr (D.old _ (by show g.size<sz M;omega))).congr (H.old _ (by show g.size<sz o;omega))).congr (r.old _ (by show g.size<sz z;omega) (by omega));refine hk m (sz q) T ⟨⟨t,sz c+1,sz g,sz o,_,_,fun _=>(0,0),⟨none,0,0⟩,[],O,R,hs,?_,U,?_,W,E,fun k n=>(by cases n),fun k _=>rfl,?_,fun j a=>(s j a).2⟩⟩ (fun j a=>(s j a).1) ?_
  ·refine (o4.base (Ayg _)).congr fun b p _ _=>?_
   have:=u b p;exact kq b (by omega) this.2
  ·refine Z.congr (fun j a=>F j a) (fun j a=>(s j (by rw [a];exact fun e=>by cases e)).2) fun j a=>?_
   rw [kq j (by omega) (by omega)];exact ZG G (by omega)
  ·refine s9.congr (fun j a=>by rw [a];exact S) (fun j a=>(s j (by rw [a];exact fun e=>by cases e)).2) fun j a=>?_
   rw [a];exact r.old _ (by show sz o<sz z;omega) (by omega)
  ·refine (((((((B.trans G).then u5 fun k n=>?_).trans e6).trans N).trans D).trans H).then r fun k n=>?_)
   ·rw [n];exact Aqo _
   ·rw [n];show sz h<=sz q;omega
abbrev ShS:=Option Pc × Option Wm
def ShS.new (f:FlowP):ShS:=(if f.shape=2\/f.shape=3 then some (0,false,f.cnt,f.queue,0,()) else none,if f.shape=1\/f.shape=3 then some (Wm.new f.cnt f.warm) else none)
def ZxY (h:Zf) (O:Nat->Prop) (p:Option Addr):Option Pc->Prop
  | none=>p=none
  | some x=>∃ b,p=some ⟨b,0,none⟩/\obj h b=some (pcO x)/\O b
def ZBK (h:Zf) (O:Nat->Prop) (p:Option Addr):Option Wm->Prop
  | none=>p=none
  | some x=>∃ b,p=some ⟨b,0,none⟩/\obj h b=some (wmO x)/\O b
theorem ZxY.congr {h h':Zf} {O O':Nat->Prop} {p:Option Addr}:∀ {x:Option Pc},ZxY h O p x->(∀ j,O j->j<sz h->O' j)->(∀ j,O j->j<sz h->obj h' j=obj h j)->ZxY h' O' p x
  | none,a,_,_=>a
  | some x,⟨b,e,c,o⟩,h1,d=>⟨b,e,(d b o (Zp c)).trans c,h1 b o (Zp c)⟩
theorem ZBK.congr {h h':Zf} {O O':Nat->Prop} {p:Option Addr}:∀ {x:Option Wm},ZBK h O p x->(∀ j,O j->j<sz h->O' j)->(∀ j,O j->j<sz h->obj h' j=obj h j)->ZBK h' O' p x
  | none,a,_,_=>a
  | some x,⟨b,e,c,o⟩,h1,d=>⟨b,e,(d b o (Zp c)).trans c,h1 b o (Zp c)⟩
abbrev ShR (h:Zf) (O:Nat->Prop) (p:Option Addr × Option Addr) (s:ShS):Prop:=ZxY h O p.1 s.1/\ZBK h O p.2 s.2
theorem Zx5 {f:FlowP} (he:f.err=0):f.shape<=3/\(f.shape≠0->1<=f.cnt)/\(0<=f.cnt/\f.cnt<=1099511627776)/\(f.shape=1\/f.shape=3->1<=f.warm/\f.warm<=3600)/\(f.shape=2\/f.shape=3->0<=f.queue/\f.queue<=3600000000):=by
  unfold FlowP.err at he;split at he
  case isFalse=>cases he
  split at he
  case isFalse=>cases he
  rename_i _ a;unfold FlowP.good Js.onlyIf Js.inJ at a;simp only [Awn,decide_eq_true_eq,Bool.or_eq_true] at a;obtain ⟨⟨⟨⟨⟨⟨⟨b,d⟩,a3,a4⟩,_⟩,_⟩,a5,c⟩,_⟩,_,_⟩:=a;refine ⟨a4,fun h=>?_,⟨?_,d⟩,fun h=>?_,fun h=>?_⟩
  ·rw [if_neg h] at b;exact b
  ·split at b<;>omega
  ·rw [if_pos h] at a5
   simpa using a5
  ·rw [if_pos h] at c
   simpa using c
theorem Zs1 {f:FlowP} (he:f.err=0) {h:Zf} {K:(Option Addr × Option Addr × Unit)->Zf->Prop} (R:∀ h' p O,ShR h' O p (ShS.new f)->(∀ j,O j->sz h<=j/\j<sz h')->Ext h h'->K (p.1,p.2,()) h'):Zbu (Rw.ZaJ f) K h:=by
  obtain ⟨hs,x,J,hw,S⟩:=Zx5 he;unfold Zbu ZfA;refine ZJ fun h1 c1 T U=>ZJ fun a V L X=>ZJ fun h3 M B z3=>?_;have b1:sz h1=sz h+1:=U;have b2:sz a=sz h1+1:=X;have b3:sz h3=sz a+1:=z3;have d:=Zj (Zj c1 L) B;have C:=Zj V B;have y:=(T.trans L).trans B;refine Zls (fun (_:Unit) c=>∃ P:Option Addr,obj c (sz a)=some (.cells [.pointer P,.pointer none].toArray 126 (0,0))/\Ext h c/\Upd (· = sz a) h3 c/\ZxY c (fun j=>sz a<j) P (ShS.new f).1) ?_ fun Q N=>?_
  ·rintro _ c ⟨P,cp,ex,D,Y⟩
   have e:=YZ d D (by show ¬ sz h=_;omega);have E:=YZ C D (by show ¬ sz h1=_;omega);have bx:sz h3<=sz c:=D.size
   have fin:∀ {g t:Zf} {W:Option Addr},obj g (sz a)=some (.cells [.pointer P,.pointer W].toArray 126 (0,0))->Ext c t->Upd (· = sz a) t g->ZBK g (fun j=>sz a<j) W (ShS.new f).2->ldP g (sz a) 0 fun t28=>ldP g (sz a) (0+1) fun t29=>sts g (sz h1) 0 [.pointer t28,.pointer t29] fun b=>ldP b (sz h1) 0 fun t31=>ldP b (sz h1) (0+1) fun t32=>K (t31,t32,()) b:=by
     intro g t W u Z F hW;have A:Upd (· = sz a) c g:=(Z.upd _).trans F;refine rP (Zb u rfl) (rP (Zb u rfl) (Zbe (YZ E A (by show ¬ sz h1=sz a;omega)) fun z v o z5=>rP (Zb v rfl) (rP (Zb v rfl) ?_)));have b4:sz c<=sz g:=A.size;have b5:sz z=sz g:=z5;refine R z (P,W) (fun j=>sz a<j/\j<sz z) ⟨?_,?_⟩ (fun j i=>by omega) ?_
     ·exact (Y.congr (h':=g) (O':=fun j=>sz a<j/\j<sz c) (fun j i hl=>⟨i,hl⟩) fun j i hl=>A.old j hl (by show ¬ j=sz a;have t:sz a<j:=i;omega)).congr (fun j i hl=>⟨i.1,by omega⟩) fun j i hl=>o.old j hl (by show ¬ j=sz h1;have t:=i.1;omega)
     ·exact hW.congr (fun j i hl=>⟨i,by omega⟩) fun j i hl=>o.old j hl (by show ¬ j=sz h1;have t:sz a<j:=i;omega)
     ·exact (ex.then A fun k l=>by rw [l];show sz h<=sz a;omega).then o fun k l=>by rw [l];show sz h<=sz h1;omega
   have m:f.shape=1\/f.shape=3->Zf1 f.cnt f.warm (fun t24 t25 G=>st G (sz a) (0+1) (.pointer t24) fun r=>ldP r (sz a) 0 fun t28=>ldP r (sz a) (0+1) fun t29=>sts r (sz h1) 0 [.pointer t28,.pointer t29] fun b=>ldP b (sz h1) 0 fun t31=>ldP b (sz h1) (0+1) fun t32=>K (t31,t32,()) b) c:=fun q=>by
     refine ZyB ⟨x (by omega),J.2⟩ (hw q) fun g u w z4=>Zbf (Zj cp w) (show 0+1<2 by decide) rfl fun z v o z5=>?_
     exact fin v w o (by
       show ZBK _ _ _ (if _ then _ else _);rw [if_pos q]
       exact ⟨sz c,rfl,YZ u o (by show ¬ sz c=sz a;omega),by show sz a<sz c;omega⟩)
   have hn:¬ (f.shape=1\/f.shape=3)->ldP c (sz a) 0 fun t28=>ldP c (sz a) (0+1) fun t29=>sts c (sz h1) 0 [.pointer t28,.pointer t29] fun b=>ldP b (sz h1) 0 fun t31=>ldP b (sz h1) (0+1) fun t32=>K (t31,t32,()) b:=fun q=>fin cp (Ext.refl _) (Upd.refl _ _) (by
       show ZBK _ _ _ (if _ then _ else _);rw [if_neg q]
       exact rfl)
   refine rI (Zb e rfl) (Z5 (fun q=>rI (Zb e rfl) (rI (Zb e rfl) (m (.inl (by have:(f.shape:Int)=1:=q;omega))))) fun q=>rI (Zb e rfl) (Z5 (fun s=>rI (Zb e rfl) (rI (Zb e rfl) (m (.inr ?_)))) fun s=>hn ?_))
   ·have:(f.shape:Int)=3:=s;omega
   ·have h1:¬ (f.shape:Int)=1:=q
    have h3:¬ (f.shape:Int)=3:=s;omega
  ·have n:f.shape=2\/f.shape=3->Zf4 f.cnt f.queue (fun t9 t10 H=>st H (sz a) 0 (.pointer t9) fun I=>Q () I) h3:=fun q=>by
     refine ZyG ⟨x (by omega),J.2⟩ (S q) fun g u w z4=>Zbf (Zj M w) (show 0<2 by decide) rfl fun z v o z5=>N _ _ ⟨some ⟨sz h3,0,none⟩,v,(y.trans w).then o fun k l=>?_,?_,?_⟩
     ·rw [l];show sz h<=sz a;omega
     ·exact (w.upd _).trans o
     ·show ZxY _ _ _ (if _ then _ else _)
      rw [if_pos q];exact ⟨sz h3,rfl,YZ u o (by show ¬ sz h3=sz a;omega),by show sz a<sz h3;omega⟩
   refine rI (Zb d rfl) (Z5 (fun q=>rI (Zb d rfl) (rI (Zb d rfl) (n (.inl ?_)))) fun q=>rI (Zb d rfl) (Z5 (fun s=>rI (Zb d rfl) (rI (Zb d rfl) (n (.inr ?_)))) fun s=>N _ _ ⟨none,M,y,Upd.refl _ _,?_⟩))
   ·have:(f.shape:Int)=2:=q;omega
   ·have:(f.shape:Int)=3:=s;omega
   ·have h1:¬ (f.shape:Int)=2:=q
    have h3:¬ (f.shape:Int)=3:=s;show ZxY _ _ _ (if _ then _ else _);rw [if_neg (by omega)];exact rfl
abbrev R5o (a b c d e:Sl):Obj:= .cells [slV a,slV b,slV c,slV d,slV e].toArray 39 (0,0)
abbrev sl0:Sl:=⟨none,0,0⟩
theorem ZqF (p:Sl × Zev):(Rw.Zln p).length=5:=rfl
theorem ZAU (p:Sl × Zev):(Rw.Zln p).all Zr=true:=by simp [Rw.Zln,Rw.i64,Rw.sV,Zd4,ZkF,Zbp]
theorem Zdn {h h':Zf} {x:Sl} {n:Nat} {vs:List Value} (r:Row h x n vs) {B:Nat} (c:x.len≠0->x.blk≠some B) (u:Upd (· = B) h h'):Row h' x n vs :=
  Rw.ZgC (S:=(· ≠ B)) r (fun a b e d=>c a (d▸e)) fun b hs hl=>u.old b hl hs
theorem ZAT {h:Zf} {m:Nat} {x s5 s7 s9:Sl} {s:List (Sl × Zev)} (hr:Row h x 5 (s.flatMap Rw.Zln)) (hi:∀ p,p∈s->Row h p.1 2 (Rw.Zhr p.2.items)/\p.2.items.length<=1000000/\(p.1.len≠0->p.1.blk≠some m)) (hl:s.length<=1000000) (hx:x.len≠0->x.blk≠some m)
    (c:obj h m=some (R5o s5 s7 sl0 s9 sl0)) {J:Zf->Prop}
    (hJ:∀ (h':Zf) (t:Sl) (a:List (Sl × Zev)),a.map (·.2)=s.map (·.2)->Row h' t 5 (a.flatMap Rw.Zln)->(∀ b,t.blk=some b->sz h<=b/\b<sz h')->(∀ p,p∈a->Row h' p.1 2 (Rw.Zhr p.2.items)/\∀ b,p.1.blk=some b->sz h<=b/\b<sz h')->obj h' m=some (R5o s5 s7 t s9 sl0)->Upd (· = m) h h'->J h') :
    Yj (σ:=Int × Unit) (fun aa ae n=>(fun (C:Int) =>
     Zm (decide (C<(x.len:Int))) (
     YR x.ptr x.len C 5 fun y z=>ldS n y z fun t37=>ldI n y (z+1) .i64 fun t38=>ldI n y (z+2) .i64 fun t39=>ldI n y (z+3) .i64 fun t40=>ldL n y (z+4) fun t41 =>
     newC n [.string (ByteArray.mk #[]),iv 0,iv 0,iv 0,.slice none 0 0] 134 fun j af=>sts af j 0 [.string t37,iv t38,iv t39,iv t40,.slice t41.ptr t41.len t41.cap] fun K =>
     ldL K j (0+4) fun t45=>Z1 t45 (fun t46 ag=>st ag j (0+4) (.slice t46.ptr t46.len t46.cap) fun r=>ldL r m (0+2) fun t49 =>
     ldS r j 0 fun t50=>ldI r j (0+1) .i64 fun t51=>ldI r j (0+2) .i64 fun t52=>ldI r j (0+3) .i64 fun t53=>ldL r j (0+4) fun t54 =>
     newC r [.string t50,iv t51,iv t52,iv t53,.slice t54.ptr t54.len t54.cap] 134 fun ah L =>
     rdS ⟨some ⟨ah,0,none⟩,1,1⟩ 5 L fun D=>app 134 5 64 [.string (ByteArray.mk #[]),iv 0,iv 0,iv 0,.slice none 0 0] t49 1 D L fun t57 ai =>
     st ai m (0+2) (.slice t57.ptr t57.len t57.cap) fun aj=>aa (IntKind.wrap .i64 (C+1),()) aj) K) (J n)) ae.1) (0,()) h:=by
  have aM:=Zan ZqF hr (by decide);have lB:=Zp c
  refine Zbd (fun (st:Int × Unit) f=>∃ (i:Nat) (t:Sl) (a:List (Sl × Zev)),st=((i:Int),())/\i<=s.length/\a.map (·.2)=(s.take i).map (·.2)/\Own f (sz h) t 5 (a.flatMap Rw.Zln)/\(∀ p,p∈a->Row f p.1 2 (Rw.Zhr p.2.items)/\∀ b,p.1.blk=some b->sz h<=b/\b<sz f/\t.blk≠some b)/\obj f m=some (R5o s5 s7 t s9 sl0)/\Upd (· = m) h f) (fun st _=>(s.length - st.1).toNat)
    ⟨0,sl0,[],rfl,Ayg _,rfl,Own.nil _ _ _,(fun p s=>by cases s),c,Upd.refl _ _⟩ ?_
  rintro _ f ⟨i,t,a,rfl,aN,hm,ho,A,cB,u⟩ Q hQ;dsimp only;refine Zn (fun q=>?_) fun q=>?_
  ·obtain ⟨p,E⟩:∃ p,s[i]?=some p:=⟨_,Axy (by omega)⟩
   obtain ⟨r1,r2,r3⟩:=hi p (Axo E);have hlen:a.length=i:=by have:=congrArg List.length hm;simp at this;omega
   have aS:=Zan ZqF ho.row (by decide);have ak:sz h<=sz f:=u.size;obtain ⟨b,o,_,_,M,d⟩:=ZbB ZqF (Zdn hr hx u) E (by decide);refine M rfl (rS (d 0 _ rfl) (rI (d 1 _ rfl) (rI (d 2 _ rfl) (rI (d 3 _ rfl) (rL (d 4 _ rfl) (ZJ fun h3 c3 e3 z3=>Zbe c3 fun F c4 u4 z4=>rL (Zb c4 rfl) ?_))))));have e4:Ext f F:=e3.then u4 fun k v=>by subst v;exact Aqo _
   have ao:Upd (· = m) h F:=u.trans (e4.upd _);refine Zmt (l:=p.2.items.map ZH8) (by rw [Zqy];exact Zdn r1 r3 ao) (by rw [Ayv];exact r2) fun t5 V o5 W=>?_;rw [Zqy] at o5;have aW:sz h3=sz f+1:=z3;have aX:sz F=sz h3:=z4;have aY:sz F<=sz V:=W.size;have aZ:f.size=sz f:=rfl;have ba:F.size=sz F:=rfl;have bb:m<sz f:=Aqq lB ak;refine Zbf (Zj c4 W) (show 0+4<5 by decide) Zbp fun X N u6 z6=>?_;have O:=YZ (Zj (Zj cB e4) W) u6 (by show ¬ m=f.size;omega);refine rL (Zb O rfl) (rS (Zb N rfl) (rI (Zb N rfl) (rI (Zb N rfl) (rI (Zb N rfl) (rL (Zb N rfl) (ZJ fun w c7 e7 z7=>?_))))));have bf:sz X=sz V:=z6;have bg:sz w=sz X+1:=z7;have G:Ext f w:=((e4.trans W).then u6 fun k v=>by subst v;exact Aqo _).trans e7;have P:Row w ⟨some ⟨X.size,0,none⟩,1,1⟩ 5 (Rw.Zln (t5,p.2)):=Zj1 c7 rfl;have av:=ho.congr (h':=w) fun k v _ _=>G.old k (ho.lt v).2;refine P.rd (Own.app av rfl (ZAU _) rfl (by omega) (by omega) (by show sz h<=sz w;omega) fun t8 Y o8 l8 u8 b8=>?_);have tB:t.blk≠some m:=fun e=>by have:=(ho.lt e).1;omega
   have aw:=YZ (Zj O e7) u8 tB;refine Zbf aw (show 0+2<5 by decide) Zbp fun B c9 u9 z9=>?_;rw [wrS (show i<s.length by omega) (by omega)];have aF:w.size=sz w:=rfl
   have H:∀ b,t8.blk=some b->t.blk=some b\/b=sz w:=fun b hb=>by
     rcases b8 with e | e
     ·exact .inl (e▸hb)
     ·rw [e] at hb;cases hb;exact .inr rfl
   have az:t8.blk≠some m:=fun e=>by
     rcases H _ e with e | e
     ·exact tB e
     ·omega
   have o9:Own B (sz h) t8 5 ((a++[(t5,p.2)]).flatMap Rw.Zln):=by
     rw [Ayl];have:=o8.congr (h':=B) fun k v I _=>u9.old k I fun e=>az (e▸v);simpa using this
   have b8:sz w<=sz Y:=u8.size;have bm:sz B=sz Y:=z9;have aG:sz f<=sz w:=G.size
   have old:∀ k,k<sz f->k≠m->t.blk≠some k->obj B k=obj f k:=fun k v Z ht=>by
     show B[k]?=f[k]?;rw [u9.old k (by show k<sz Y;omega) Z,u8.old k (by show k<sz w;omega) ht,G.old k v]
   have R:Upd (· = m) h B:=⟨by show sz h<=sz B;omega,fun k v Z=>by
     have bo:k<sz h:=v;have:=old k (by omega) Z fun e=>by have:=(ho.lt e).1;omega
     rw [show B[k]?=f[k]? from this,u.old k v Z]⟩
   refine hQ _ _ ⟨i+1,t8,a++[(t5,p.2)],rfl,by omega,?_,o9,fun p' g=>?_,c9,R⟩ (by show ((s.length:Int) - ((i+1:Nat):Int)).toNat<((s.length:Int) - ((i:Nat):Int)).toNat;omega)
   ·rw [Aym,E,Ayw,Ayw,hm]
    rfl
   ·rcases Axx.1 g with g | g
    ·obtain ⟨q1,q2⟩:=A p' g
     refine ⟨Rw.ZgC (S:=fun b=>sz h<=b/\b<sz f/\t.blk≠some b) q1 (fun _ b e=>q2 b e) fun b hs I=>old b I (by omega) hs.2.2,fun b e=>?_⟩;obtain ⟨w1,w2,w3⟩:=q2 b e;refine ⟨w1,by omega,fun T=>?_⟩
     rcases H _ T with U | U
     ·exact w3 U
     ·omega
    ·simp at g
     subst g;dsimp only;have bl:∀ b,t5.blk=some b->sz F<=b/\b<sz V:=fun b e=>o5.lt e;have tn:∀ b,t.blk=some b->b<sz f:=fun b e=>(ho.lt e).2;refine ⟨(o5.congr (h':=B) fun b e _ _=>?_).row,fun b e=>?_⟩
     ·have:=bl b e
      rw [u9.old b (by show b<sz Y;omega) (by omega),u8.old b (by show b<sz w;omega) (fun T=>by have:=tn b T;omega),e7.old b (by show b<sz X;omega),u6.old b (by show b<sz V;omega) (by omega)]
     ·have:=bl b e
      refine ⟨by omega,by omega,fun T=>?_⟩
      rcases H _ T with U | U
      ·have:=tn b U;omega
      ·omega
  ·refine hJ f t a ?_ ho.row (fun b e=>ho.lt e) (fun p g=>⟨(A p g).1,fun b e=>⟨((A p g).2 b e).1,((A p g).2 b e).2.1⟩⟩) cB u
   rw [hm,Awd (by omega)]
theorem ZnI (p:Sl × ZbC):(Rw.Ziz p).length=3:=rfl
theorem ZxC (p:Sl × ZbC):(Rw.Ziz p).all Zr=true:=by simp [Rw.Ziz,Rw.sV,Zqs,ZkF,Zbp]
theorem Zqa {h:Zf} {s:Sl} {l:List BL} (hs:Row h s 1 (l.map Rw.sV)) (hl:l.length<=1000000) {K:Sl->Zf->Prop}
    (i:∀ t h',Own h' h.size t 1 (l.map Rw.sV)->Ext h h'->K t h'):YT s K h:=by
  unfold YT X7;have d:s.len=l.length:=by have:=hs.len;simp at this;omega
  refine ⟨fun q=>?_,fun q=>?_⟩
  ·rcases hs.at_ with h0 | ⟨b,o,j,r⟩
   ·have:l=[]:=Aqr (by omega)
    subst this;exact i _ _ (Own.nil _ _ _) (Ext.refl h)
   ·rw [j] at q;cases q
  ·rw [Ziv]
   have e:Ext h (h.push (.cells ([]:List Value).toArray 9 (0,0))):=Ext.push _ _;refine (hs.ext e).rd ?_;have ho:Own (h.push (.cells ([]:List Value).toArray 9 (0,0))) h.size ⟨some ⟨sz h,0,none⟩,0,0⟩ 1 []:=⟨rfl,Aqo _,(by show 0<9223372036854775808;decide),.inr ⟨sz h,#[],9,rfl,Aqo _,Zc6,rfl,rfl⟩⟩
   have a:(l.map Rw.sV).all Zr=true:=by
     rw [Axb];intro v hv;obtain ⟨t,_,rfl⟩:=Axz.1 hv;exact ZkF
   refine Own.app ho (by rw [Ayv,d];omega) a rfl (by show (0+s.len)*16<=140737488355328;omega) (by show 0+s.len<=140737488355328;omega) (show h.size<=_ from e.size) fun t m f n g p=>?_;refine i t m ?_ (e.then g fun k c=>?_)
   ·simpa using f
   ·simp [Sl.blk] at c
    rw [YO,<- c];exact Aqo _
theorem ZxA {h:Zf} {g:Nat} {x s5 s7 s8 s9:Sl} {m:List (Sl × ZbC)} (hr:Row h x 3 (m.flatMap Rw.Ziz)) (hi:∀ p,p∈m->Row h p.1 1 (p.2.origins.map Rw.sV)/\p.2.origins.length<=1000000/\(p.1.len≠0->p.1.blk≠some g)) (hl:m.length<=1000000) (hx:x.len≠0->x.blk≠some g)
    (c:obj h g=some (R5o s5 s7 s8 s9 sl0)) {J:Zf->Prop}
    (hJ:∀ (h':Zf) (t:Sl) (a:List (Sl × ZbC)),a.map (·.2)=m.map (·.2)->Row h' t 3 (a.flatMap Rw.Ziz)->(∀ b,t.blk=some b->sz h<=b/\b<sz h')->(∀ p,p∈a->Row h' p.1 1 (p.2.origins.map Rw.sV)/\∀ b,p.1.blk=some b->sz h<=b/\b<sz h')->obj h' g=some (R5o s5 s7 s8 s9 t)->Upd (· = g) h h'->J h') :
    Yj (σ:=Int × Unit) (fun Z aa v=>(fun (A:Int) =>
     Zm (decide (A<(x.len:Int))) (
     YR x.ptr x.len A 3 fun B C=>ldS v B C fun t67=>ldB v B (C+1) fun t68=>ldL v B (C+2) fun t69 =>
     newC v [.string (ByteArray.mk #[]),.bool false,.slice none 0 0] 160 fun n ae=>sts ae n 0 [.string t67,.bool t68,.slice t69.ptr t69.len t69.cap] fun K =>
     ldL K n (0+2) fun t73=>YT t73 (fun t74 af=>st af n (0+2) (.slice t74.ptr t74.len t74.cap) fun w=>ldL w g (0+4) fun t77 =>
     ldS w n 0 fun t78=>ldB w n (0+1) fun t79=>ldL w n (0+2) fun t80 =>
     newC w [.string t78,.bool t79,.slice t80.ptr t80.len t80.cap] 160 fun ag L =>
     rdS ⟨some ⟨ag,0,none⟩,1,1⟩ 3 L fun D=>app 160 3 48 [.string (ByteArray.mk #[]),.bool false,.slice none 0 0] t77 1 D L fun t83 ah =>
     st ah g (0+4) (.slice t83.ptr t83.len t83.cap) fun ai=>Z (IntKind.wrap .i64 (A+1),()) ai) K) (J v)) aa.1) (0,()) h:=by
  have aM:=Zan ZnI hr (by decide);have lB:=Zp c
  refine Zbd (fun (st:Int × Unit) d=>∃ (i:Nat) (t:Sl) (a:List (Sl × ZbC)),st=((i:Int),())/\i<=m.length/\a.map (·.2)=(m.take i).map (·.2)/\Own d (sz h) t 3 (a.flatMap Rw.Ziz)/\(∀ p,p∈a->Row d p.1 1 (p.2.origins.map Rw.sV)/\∀ b,p.1.blk=some b->sz h<=b/\b<sz d/\t.blk≠some b)/\obj d g=some (R5o s5 s7 s8 s9 t)/\Upd (· = g) h d) (fun st _=>(m.length - st.1).toNat)
    ⟨0,sl0,[],rfl,Ayg _,rfl,Own.nil _ _ _,(fun p m=>by cases m),c,Upd.refl _ _⟩ ?_
  rintro _ d ⟨i,t,a,rfl,aN,hm,ho,y,cB,u⟩ Q hQ;dsimp only;refine Zn (fun q=>?_) fun q=>?_
  ·obtain ⟨p,E⟩:∃ p,m[i]?=some p:=⟨_,Axy (by omega)⟩
   obtain ⟨r1,r2,r3⟩:=hi p (Axo E);have hlen:a.length=i:=by have:=congrArg List.length hm;simp at this;omega
   have aS:=Zan ZnI ho.row (by decide);have aj:sz h<=sz d:=u.size;obtain ⟨b,o,_,_,M,j⟩:=ZbB ZnI (Zdn hr hx u) E (by decide);refine M rfl (rS (j 0 _ rfl) (rB (j 1 _ rfl) (rL (j 2 _ rfl) (ZJ fun h3 c3 e3 z3=>Zbe c3 fun F c4 u4 z4=>rL (Zb c4 rfl) ?_))));have e4:Ext d F:=e3.then u4 fun k r=>by subst r;exact Aqo _
   have an:Upd (· = g) h F:=u.trans (e4.upd _);refine Zqa (l:=p.2.origins) (Zdn r1 r3 an) r2 fun t5 U o5 V=>?_;have aW:sz h3=sz d+1:=z3;have aX:sz F=sz h3:=z4;have aY:sz F<=sz U:=V.size;have aZ:d.size=sz d:=rfl;have ba:F.size=sz F:=rfl;have bb:g<sz d:=Aqq lB aj;refine Zbf (Zj c4 V) (show 0+2<3 by decide) Zbp fun W c6 u6 z6=>?_;have N:=YZ (Zj (Zj cB e4) V) u6 (by show ¬ g=d.size;omega);refine rL (Zb N rfl) (rS (Zb c6 rfl) (rB (Zb c6 rfl) (rL (Zb c6 rfl) (ZJ fun s c7 e7 z7=>?_))));have bf:sz W=sz U:=z6;have bg:sz s=sz W+1:=z7;have G:Ext d s:=((e4.trans V).then u6 fun k r=>by subst r;exact Aqo _).trans e7;have O:Row s ⟨some ⟨W.size,0,none⟩,1,1⟩ 3 (Rw.Ziz (t5,p.2)):=Zj1 c7 rfl;have au:=ho.congr (h':=s) fun k r _ _=>G.old k (ho.lt r).2;refine O.rd (Own.app au rfl (ZxC _) rfl (by omega) (by omega) (by show sz h<=sz s;omega) fun t8 X o8 l8 u8 b8=>?_);have tB:t.blk≠some g:=fun e=>by have:=(ho.lt e).1;omega
   have av:=YZ (Zj N e7) u8 tB;refine Zbf av (show 0+4<5 by decide) Zbp fun z c9 u9 z9=>?_;rw [wrS (show i<m.length by omega) (by omega)];have aF:s.size=sz s:=rfl
   have H:∀ b,t8.blk=some b->t.blk=some b\/b=sz s:=fun b hb=>by
     rcases b8 with e | e
     ·exact .inl (e▸hb)
     ·rw [e] at hb;cases hb;exact .inr rfl
   have ay:t8.blk≠some g:=fun e=>by
     rcases H _ e with e | e
     ·exact tB e
     ·omega
   have o9:Own z (sz h) t8 3 ((a++[(t5,p.2)]).flatMap Rw.Ziz):=by
     rw [Ayl];have:=o8.congr (h':=z) fun k r I _=>u9.old k I fun e=>ay (e▸r);simpa using this
   have b8:sz s<=sz X:=u8.size;have bm:sz z=sz X:=z9;have aG:sz d<=sz s:=G.size
   have old:∀ k,k<sz d->k≠g->t.blk≠some k->obj z k=obj d k:=fun k r Y ht=>by
     show z[k]?=d[k]?;rw [u9.old k (by show k<sz X;omega) Y,u8.old k (by show k<sz s;omega) ht,G.old k r]
   have P:Upd (· = g) h z:=⟨by show sz h<=sz z;omega,fun k r Y=>by
     have bo:k<sz h:=r;have:=old k (by omega) Y fun e=>by have:=(ho.lt e).1;omega
     rw [show z[k]?=d[k]? from this,u.old k r Y]⟩
   refine hQ _ _ ⟨i+1,t8,a++[(t5,p.2)],rfl,by omega,?_,o9,fun p' f=>?_,c9,P⟩ (by show ((m.length:Int) - ((i+1:Nat):Int)).toNat<((m.length:Int) - ((i:Nat):Int)).toNat;omega)
   ·rw [Aym,E,Ayw,Ayw,hm]
    rfl
   ·rcases Axx.1 f with f | f
    ·obtain ⟨q1,q2⟩:=y p' f
     refine ⟨Rw.ZgC (S:=fun b=>sz h<=b/\b<sz d/\t.blk≠some b) q1 (fun _ b e=>q2 b e) fun b hs I=>old b I (by omega) hs.2.2,fun b e=>?_⟩;obtain ⟨w1,w2,w3⟩:=q2 b e;refine ⟨w1,by omega,fun R=>?_⟩
     rcases H _ R with T | T
     ·exact w3 T
     ·omega
    ·simp at f
     subst f;dsimp only;have bl:∀ b,t5.blk=some b->sz F<=b/\b<sz U:=fun b e=>o5.lt e;have tn:∀ b,t.blk=some b->b<sz d:=fun b e=>(ho.lt e).2;refine ⟨(o5.congr (h':=z) fun b e _ _=>?_).row,fun b e=>?_⟩
     ·have:=bl b e
      rw [u9.old b (by show b<sz X;omega) (by omega),u8.old b (by show b<sz s;omega) (fun R=>by have:=tn b R;omega),e7.old b (by show b<sz W;omega),u6.old b (by show b<sz U;omega) (by omega)]
     ·have:=bl b e
      refine ⟨by omega,by omega,fun R=>?_⟩
      rcases H _ R with T | T
      ·have:=tn b T;omega
      ·omega
  ·refine hJ d t a ?_ ho.row (fun b e=>ho.lt e) (fun p f=>⟨(y p f).1,fun b e=>⟨((y p f).2 b e).1,((y p f).2 b e).2.1⟩⟩) cB u
   rw [hm,Awd (by omega)]
abbrev ZBU (a b:Nat):Nat->Prop:=fun j=>a<=j/\j<b
structure ZvZ (r:RulesP):Prop where
  f:r.fl.length<=256
  b:r.br.length<=256
  h:r.ho.length<=256
  s:r.sy.length<=256
  l:r.li.length<=256
  hi:∀ f,f∈r.ho->f.items.length<=1000000
  lo:∀ f,f∈r.li->f.origins.length<=1000000
theorem Zyx {α:Type} {g:α->List Value} (b:∀ a,(g a).all Zr=true) (l:List α):(l.flatMap g).all Zr=true:=by
  rw [Axb];intro v hv;obtain ⟨t,_,hv⟩:=List.mem_flatMap.1 hv;exact Axb.1 (b t) v hv
theorem Zx7 (f:FlowP):(Rw.Zfh f).all Zr=true:=by simp [Rw.Zfh,Rw.sV,Rw.i64,Rw.i8,Zqs,ZkF,Zd4]
theorem ZvQ (f:YS):(Rw.Zdk f).all Zr=true:=by simp [Rw.Zdk,Rw.sV,Rw.i64,Rw.i8,ZkF,Zd4]
theorem ZsN (f:ZaD):(Rw.ZgX f).all Zr=true:=by simp [Rw.ZgX,Rw.i64,Zd4]
theorem Zi9 {h h':Zf} {S:Nat->Prop} {x:Sl} {n:Nat} {vs:List Value} (r:Row h x n vs/\Rw.inS S x) (a:∀ b,S b->b<sz h) (e:Ext h h'):Row h' x n vs/\∀ B,sz h<=B->x.len≠0->x.blk≠some B :=
  ⟨r.1.ext e,fun B f c d=>by have:=a B (r.2 c B d);omega⟩
theorem ZHu {h:Zf} {S:Nat->Prop} {z:Rw.VTR} {r:RulesP} (G:Rw.Xe h S z r) (M:∀ b,S b->b<sz h) (hl:ZvZ r) {s:Sl} (hs:Row h s 5 [slV z.1,slV z.2.1,slV z.2.2.1,slV z.2.2.2.1,slV z.2.2.2.2.1]) {K:Rw.VTR->Zf->Prop}
    (a:∀ h' z',Ext h h'->Rw.Xe h' (ZBU (sz h) (sz h')) z' r->K z' h'):Zhz s K h:=by
  unfold Zhz ZjM;have N:s.len=1:=by have:=hs.len;simp at this;omega
  obtain ⟨hp,O,ay,az⟩:=G.ho;obtain ⟨lp,P,aA,aB⟩:=G.li;have n1:=Zan (g:=Rw.Zfh) (n:=12) (fun _=>rfl) G.fl.1 (by decide);have n2:=Zan (g:=Rw.Zdk) (n:=7) (fun _=>rfl) G.br.1 (by decide);have n4:=Zan (g:=Rw.ZgX) (n:=5) (fun _=>rfl) G.sy.1 (by decide);have l1:=hl.f;have l2:=hl.b;have l4:=hl.s;refine ZJ fun h1 c1 e1 z1=>ZJ fun h2 c2 e2 z2=>?_;have R:=e1.trans e2;have w0:sz h1=sz h+1:=z1;have w2:sz h2=sz h1+1:=z2;refine Zbd (fun (p:Int × Unit) j=>Upd (· = sz h1) h1 j/\((p=(0,())/\j=h2)\/(p.1=1/\∃ z':Rw.VTR,obj j (sz h1)=some (R5o z'.1 z'.2.1 z'.2.2.1 z'.2.2.2.1 z'.2.2.2.2.1)/\Rw.Xe j (ZBU (sz h1+1) (sz j)) z' r))) (fun p _=>(1 - p.1).toNat) ⟨e2.upd _,.inl ⟨rfl,rfl⟩⟩ ?_;rintro ⟨i,u⟩ j ⟨he,⟨A,aD⟩ | ⟨A,z',cr,aE⟩⟩ Q hQ
  ·injection A with A _
   subst A;subst aD;dsimp only;rw [N];obtain ⟨b,o,bz,bA,af,hc⟩:=ZbB (α:=Rw.VTR) (g:=fun z=>[slV z.1,slV z.2.1,slV z.2.2.1,slV z.2.2.2.1,slV z.2.2.2.2.1]) (n:=5) (fun _=>rfl) (l:=[z]) (by simpa using hs.ext R) (i:=0) rfl (by decide);have T:∀ {K:Nat->Nat->Prop},K b o->YR s.ptr 1 0 5 K:=fun {K} a=>by have:=af (K:=K) (m:=0) rfl a;rwa [N] at this
   refine Zl rfl (T (rL (hc 0 _ rfl) (rL (hc 1 _ rfl) (rL (hc 2 _ rfl) (rL (hc 3 _ rfl) (rL (hc 4 _ rfl) (ZJ fun h3 U e3 z3=>Zbe U fun B c4 u4 z4=>?_)))))));have e4:Ext j B:=e3.then u4 fun k a=>by subst a;exact Aqo _
   have w4:sz B=sz j+1:=by have:h3.size=j.size+1:=z3;simp only [YO] at this;omega
   have x4:=Zj c2 e4;have F:¬ sz j=sz h1:=by omega
   have c:sz h1<sz B:=by omega
   have aF:=(Zi9 G.fl M (R.trans e4));refine rL (s:=sl0) (Zb x4 rfl) (rL (s:=z.1) (Zb c4 rfl) (aF.1.rd ?_));refine (Own.nil B (sz B) 12).app (n:=z.1.len) (by rw [YV (n:=12) fun _=>rfl,n1]) (Zyx Zx7 _) rfl (show (0+z.1.len)*120<=140737488355328 by omega) (show 0+z.1.len<=140737488355328 by omega) (Aqo _) fun s5 h5 o5 _ u5 _=>?_;have e5:Ext B h5:=u5.ext fun k _ a=>by cases a
   refine Zbf (Zj x4 e5) (show 0<5 by decide) Zbp fun H x6 u6 z6=>?_;have w5:sz B<=sz h5:=e5.size;have E6:Ext h H:=((R.trans e4).trans e5).then u6 fun k a=>by subst a;exact e1.size
   have aG:Ext h1 H:=((e2.trans e4).trans e5).then u6 fun k a=>by subst a;exact Aqo _
   have c6:obj H (sz j)=_:=(u6.old (sz j) (show sz j<sz h5 by omega) F).trans (Zj c4 e5);have o6:=Zsj o5 u6 c;refine rL (s:=sl0) (Zb x6 rfl) (rL (s:=z.2.1) (Zb c6 rfl) ((Zi9 G.br M E6).1.rd ?_));refine (Own.nil H (sz B) 7).app (n:=z.2.1.len) (by rw [YV (n:=7) fun _=>rfl,n2]) (Zyx ZvQ _) rfl (show (0+z.2.1.len)*64<=140737488355328 by omega) (show 0+z.2.1.len<=140737488355328 by omega) (by show sz B<=sz H;omega) fun s7 h7 o7 _ u7 _=>?_;have Z:Ext H h7:=u7.ext fun k _ a=>by cases a
   refine Zbf (Zj x6 Z) (show 0+1<5 by decide) Zbp fun I x8 u8 z8=>?_;have w7:sz H<=sz h7:=Z.size;have E8:Ext h I:=(E6.trans Z).then u8 fun k a=>by subst a;exact e1.size
   have aH:Ext h1 I:=(aG.trans Z).then u8 fun k a=>by subst a;exact Aqo _
   have c8:obj I (sz j)=_:=(u8.old (sz j) (show sz j<sz h7 by omega) F).trans (Zj c6 Z);have o8:=Zsj (Zxj o6 Z) u8 c;have aI:=Zsj o7 u8 c;refine rL (s:=sl0) (Zb x8 rfl) (rL (s:=z.2.2.2.1) (Zb c8 rfl) ((Zi9 G.sy M E8).1.rd ?_));refine (Own.nil I (sz B) 5).app (n:=z.2.2.2.1.len) (by rw [YV (n:=5) fun _=>rfl,n4]) (Zyx ZsN _) rfl (show (0+z.2.2.2.1.len)*40<=140737488355328 by omega) (show 0+z.2.2.2.1.len<=140737488355328 by omega) (by show sz B<=sz I;omega) fun s9 V o9 _ u9 _=>?_;have W:Ext I V:=u9.ext fun k _ a=>by cases a
   refine Zbf (Zj x8 W) (show 0+3<5 by decide) Zbp fun q aJ C aK=>?_;have w9:sz I<=sz V:=W.size;have X:Ext h q:=(E8.trans W).then C fun k a=>by subst a;exact e1.size
   have ai:Ext h1 q:=(aH.trans W).then C fun k a=>by subst a;exact Aqo _
   have aj:obj q (sz j)=_:=(C.old (sz j) (show sz j<sz V by omega) F).trans (Zj c8 W);have p1:=Zsj (Zxj o8 W) C c;have p2:=Zsj (Zxj aI W) C c;have p3:=Zsj o9 C c;have w6:sz H=sz h5:=z6;have w8:sz I=sz h7:=z8;have bP:sz q=sz V:=aK;have lh:=hl.h;have ll:=hl.l
   have aL:hp.length<=1000000:=by have:hp.length=r.ho.length:=by rw [<- O,Ayv]
                                  omega
   have aM:lp.length<=1000000:=by have:lp.length=r.li.length:=by rw [<- P,Ayv]
                                  omega
   have J:=Zi9 ay M X;refine rL (s:=z.2.2.1) (Zb aj rfl) (ZAT (s5:=s5) (s7:=s7) (s9:=s9) J.1 (fun p d=>?_) aL (J.2 _ (by show sz h<=sz h1;omega)) aJ fun w t aN aO ht ak Y aP y=>?_)
   ·have:=Zi9 (az p d) M X
    exact ⟨this.1,hl.hi _ (by rw [<- O];exact List.mem_map_of_mem d),this.2 _ (by show sz h<=sz h1;omega)⟩
   have bR:sz q<=sz w:=y.size;have an:=YZ aj y F;have ao:Ext h w:=X.then y fun k a=>by rw [a];show sz h<=sz h1;omega
   have L:=Zi9 aA M ao;refine rL (s:=z.2.2.2.2.1) (Zb an rfl) (ZxA (s5:=s5) (s7:=s7) (s8:=t) (s9:=s9) L.1 (fun p d=>?_) aM (L.2 _ (by show sz h<=sz h1;omega)) aP fun v t12 aQ aR lt aS aq aT D=>?_)
   ·have:=Zi9 (aB p d) M ao
    exact ⟨this.1,hl.lo _ (by rw [<- P];exact List.mem_map_of_mem d),this.2 _ (by show sz h<=sz h1;omega)⟩
   have bS:sz w<=sz v:=D.size;have q1:=Zsj (Zsj p1 y c) D c;have q2:=Zsj (Zsj p2 y c) D c;have q3:=Zsj (Zsj p3 y c) D c;have rk:∀ {x:Sl} {n:Nat} {vs:List Value},Row w x n vs->(∀ b,x.blk=some b->sz q<=b/\b<sz w)->Row v x n vs:=fun {x n vs} hx E=>Zdn hx (fun _ e=>by have V:sz q<=sz h1:=(E _ e).1;omega) D
   have iO:∀ {x:Sl} {n:Nat} {vs:List Value},Own v (sz B) x n vs->Rw.inS (ZBU (sz h1+1) (sz v)) x:=fun {x n vs} hx _ b e=>by
     have V:sz B<=b/\b<sz v:=hx.lt e;exact ⟨by omega,V.2⟩
   have i1:∀ {x:Sl},(∀ b,x.blk=some b->sz q<=b/\b<sz w)->Rw.inS (ZBU (sz h1+1) (sz v)) x:=fun {x} E _ b e=>by
     have:=E b e;exact ⟨by omega,by omega⟩
   have i2:∀ {x:Sl},(∀ b,x.blk=some b->sz w<=b/\b<sz v)->Rw.inS (ZBU (sz h1+1) (sz v)) x:=fun {x} E _ b e=>by
     have:=E b e;exact ⟨by omega,by omega⟩
   exact hQ _ _ ⟨((ai.upd _).trans y).trans D,.inr ⟨by decide,(s5,s7,t,s9,t12,()),aT,⟨⟨q1.row,iO q1⟩,⟨q2.row,iO q2⟩,⟨aN,by rw [aO,O],⟨rk ht ak,i1 ak⟩,fun p d=>⟨rk (Y p d).1 (Y p d).2,i1 (Y p d).2⟩⟩,⟨q3.row,iO q3⟩,⟨aQ,by rw [aR,P],⟨lt,i2 aS⟩,fun p d=>⟨(aq p d).1,i2 (aq p d).2⟩⟩⟩⟩⟩ (show (1 - IntKind.wrap .i64 (0+1)).toNat<(1 - (0:Int)).toNat by decide)
  ·dsimp only at A ⊢
   subst A;rw [N];have y1:obj j (sz h)=_:=(he.old (sz h) (show sz h<sz h1 by omega) (by show ¬ sz h=sz h1;omega)).trans c1;have bU:sz h1<=sz j:=he.size;refine Zi rfl (rL (s:=z'.1) (Zb cr rfl) (rL (s:=z'.2.1) (Zb cr rfl) (rL (s:=z'.2.2.1) (Zb cr rfl) (rL (s:=z'.2.2.2.1) (Zb cr rfl) (rL (s:=z'.2.2.2.2.1) (Zb cr rfl) (Zbe y1 fun h3 U u3 z3=>?_))))));have w3:sz h3=sz j:=z3
   have E3:Ext h h3:=⟨by show sz h<=sz h3;omega,fun k a=>by
     have bW:k<sz h:=a
     rw [u3.old k (by show k<sz j;omega) (by show ¬ k=sz h;omega),he.old k (by show k<sz h1;omega) (by show ¬ k=sz h1;omega),e1.old k a]⟩
   refine rL (s:=z'.1) (Zb U rfl) (rL (s:=z'.2.1) (Zb U rfl) (rL (s:=z'.2.2.1) (Zb U rfl) (rL (s:=z'.2.2.2.1) (Zb U rfl) (rL (s:=z'.2.2.2.2.1) (Zb U rfl) (a h3 z' E3 ?_)))));refine (aE.keep (h':=h3) fun b E ar=>u3.old b ar (by show ¬ b=sz h;have:=E.1;omega)).mono fun b ar E=>⟨by have:=E.1;omega,by have:=E.2;omega⟩
theorem ZBY {h:Zf} {S:Nat->Prop} {z:Rw.VTR} {r:RulesP} (u:Rw.Xe h S z r) (v:∀ b,S b->b<sz h) (hl:ZvZ r) {K:Rw.VTR->Zf->Prop}
    (i:∀ h' z',Ext h h'->Rw.Xe h' (ZBU (sz h) (sz h')) z' r->K z' h'):Zf3 z K h:=by
  unfold Zf3 ZjO;refine ZJ fun h1 c1 m w=>ZJ fun n x o y=>?_;have d:=Zj c1 o;refine rL (s:=z.1) (Zb d rfl) (rL (s:=z.2.1) (Zb d rfl) (rL (s:=z.2.2.1) (Zb d rfl) (rL (s:=z.2.2.2.1) (Zb d rfl) (rL (s:=z.2.2.2.2.1) (Zb d rfl) (ZJ fun h3 A p z3=>?_)))));have a:=(m.trans o).trans p;have B:sz h<=sz h3:=a.size;refine ZHu (u.ext a) (fun b c=>by have:=v b c;omega) hl (Zj1 A rfl) fun q z4 j l=>?_;have C:=Zj (Zj x p) j;have w1:sz h1=sz h+1:=w;have E:sz n=sz h1+1:=y;have F:sz h3=sz n+1:=z3;have G:sz h3<=sz q:=j.size;refine Zbe C fun g e t z5=>?_;have H:sz g=sz q:=z5;have D:Ext h g:=(a.trans j).then t fun k i=>by subst i;exact m.size
  refine rL (s:=z4.1) (Zb e rfl) (rL (s:=z4.2.1) (Zb e rfl) (rL (s:=z4.2.2.1) (Zb e rfl) (rL (s:=z4.2.2.2.1) (Zb e rfl) (rL (s:=z4.2.2.2.2.1) (Zb e rfl) (i g z4 D ?_)))));refine (l.keep (h':=g) fun b c f=>t.old b f (by show ¬ b=sz h1;have:=c.1;omega)).mono fun b f c=>⟨by have:=c.1;omega,by have:=c.2;omega⟩
structure Good (r:RulesP):Prop where
  s:ZvZ r
  f:∀ f,f∈r.fl->f.err=0
  b:∀ f,f∈r.br->f.err=0
  h:∀ f,f∈r.ho->f.err=0
  y:∀ f,f∈r.sy->f.err=0
  l:∀ f,f∈r.li->f.err=0
theorem Zc3 {α:Type} {f:α->Nat}:∀ {l:List α} {i:Nat},Za8 f l i=none->∀ a,a∈l->f a=0
  | [],_,_,a,c=>by cases c
  | b::l,i,h,a,c=>by
    unfold Za8 at h;split at h
    ·rename_i h0
     rcases Awr.1 c with rfl | c
     ·exact h0
     ·exact Zc3 h a c
    ·cases h
theorem Zid {α:Type} {f:α->Nat}:∀ {l:List α} {i k e:Nat},Za8 f l i=some (k,e)->e≠0
  | [],_,_,_,h=>by cases h
  | b::l,i,k,e,h=>by
    unfold Za8 at h;split at h
    ·exact Zid h
    ·rename_i h0
     cases h;exact h0
theorem ZxB {f:ZbC} (he:f.err=0):f.origins.length<=32:=by
  unfold ZbC.err at he;split at he
  ·split at he
   ·rename_i _ a
    simp only [Awn,decide_eq_true_eq] at a;omega
   ·cases he
  ·cases he
theorem ZqH {r:RulesP} (h:r.whereE.2.2=0):Good r:=by
  unfold RulesP.whereE at h;have no:∀ {a b:Nat},((a,b,5):Nat × Nat × Nat).2.2=0->False:=fun h=>by cases h
  by_cases k:256<r.fl.length
  ·rw [if_pos k] at h;exact (no h).elim
  rw [if_neg k] at h
  by_cases l:256<r.br.length
  ·rw [if_pos l] at h;exact (no h).elim
  rw [if_neg l] at h
  by_cases a3:256<r.ho.length
  ·rw [if_pos a3] at h;exact (no h).elim
  rw [if_neg a3] at h
  by_cases a4:256<r.sy.length
  ·rw [if_pos a4] at h;exact (no h).elim
  rw [if_neg a4] at h
  by_cases a5:256<r.li.length
  ·rw [if_pos a5] at h;exact (no h).elim
  rw [if_neg a5] at h
  cases d:Za8 FlowP.err r.fl 0 with
  | some p=>rw [d] at h;exact (Zid d h).elim
  | none =>
  rw [d] at h;dsimp only at h
  cases e:Za8 YS.err r.br 0 with
  | some p=>rw [e] at h;exact (Zid e h).elim
  | none =>
  rw [e] at h;dsimp only at h
  cases c:Za8 Zev.err r.ho 0 with
  | some p=>rw [c] at h;exact (Zid c h).elim
  | none =>
  rw [c] at h;dsimp only at h
  cases g:Za8 ZaD.err r.sy 0 with
  | some p=>rw [g] at h;exact (Zid g h).elim
  | none =>
  rw [g] at h;dsimp only at h
  cases i:Za8 ZbC.err r.li 0 with
  | some p=>rw [i] at h;exact (Zid i h).elim
  | none =>
  exact ⟨⟨by omega,by omega,by omega,by omega,by omega,fun f j=>Aqp (Zub (Zc3 c f j)).2 (by decide),fun f j=>Aqp (ZxB (Zc3 i f j)) (by decide)⟩,Zc3 d,Zc3 e,Zc3 c,Zc3 g,Zc3 i⟩
theorem ZES {h:Zf} {S:Nat->Prop} {sb:Nat} {rs:R5} {g:Int} {z:Rw.VTR} {r:RulesP} (t:obj h sb=some (ZoX rs g)) (u:Rw.Xe h S z r) (x:∀ b,S b->b<sz h) (y:Rw.RulesP.fit r)
    {K:Int->Zf->Prop} (h0:r.whereE.2.2=0->∀ h' z',obj h' sb=some (ZoX z' (IntKind.wrap .i64 (g+1)))->Rw.Xe h' (ZBU (sz h) (sz h')) z' r->Upd (· = sb) h h'->K 0 h') (h1:∀ e:Nat,r.whereE.2.2=e->e≠0->∀ h',Ext h h'->K e h'):ZcA (some ⟨sb,0,none⟩) z K h:=by
  unfold ZcA Ze8;have A:=Zp t;refine ZJ fun I c l J=>Za (Zi rfl (rL (s:=z.1) (Zb c rfl) (rL (s:=z.2.1) (Zb c rfl) (rL (s:=z.2.2.1) (Zb c rfl) (rL (s:=z.2.2.2.1) (Zb c rfl) (rL (s:=z.2.2.2.2.1) (Zb c rfl) ?_))))));refine Rw.Zu2 (u.ext l) y fun h3 p B m=>Za (Za (Za ?_));subst B;have f:=Zj c m
  by_cases q:r.whereE.2.2=0
  ·have C:=ZqH q
   rw [q];refine Zi rfl (rL (s:=z.1) (Zb f rfl) (rL (s:=z.2.1) (Zb f rfl) (rL (s:=z.2.2.1) (Zb f rfl) (rL (s:=z.2.2.2.1) (Zb f rfl) (rL (s:=z.2.2.2.2.1) (Zb f rfl) ?_)))));have a:=l.trans m;have L:sz h<=sz h3:=a.size;refine ZBY (u.ext a) (fun b d=>by have:=x b d;omega) C.s fun n z4 o D=>Zg ?_;have E:=Zj (Zj t a) o;have M:sz h3<=sz n:=o.size;refine ZGn E (ZBs z4 g) (fun v w F z5=>Zg (rI (Zb w rfl) (Zg (Zbf w (show 0+5<6 by decide) rfl fun k G H z6=>Za ?_)))) (hv:=by simp [ZoZ,Zbp]);have i:Upd (· = sb) n k:=F.trans H;have N:sz v=sz n:=z5;have O:sz k=sz v:=z6;refine h0 q k z4 G ?_ (((a.trans o).upd _).trans i);exact (D.keep (h':=k) fun b d j=>i.old b j (by show ¬ b=sb;have:=d.1;omega)).mono fun b j d=>⟨by have:=d.1;omega,by have:=d.2;omega⟩
  ·exact Zl (by simpa using q) (Za (h1 _ rfl q h3 (l.trans m)))
theorem ZHr {h:Zf} {S:Nat->Prop} {sb:Nat} {g:Int} {z:Rw.VTR} {r:RulesP} (n:obj h sb=some (ZoX z g)) (p:Rw.Xe h S z r) (q:∀ b,S b->b<sz h) (hl:ZvZ r)
    {K:Rw.VTR->Int->Zf->Prop} (i:∀ h' z',Rw.Xe h' (ZBU (sz h) (sz h')) z' r->Ext h h'->K z' g h'):Zdb (some ⟨sb,0,none⟩) K h:=by
  unfold Zdb ZfB;refine ZJ fun h1 c1 j t=>Za (Zi rfl (Zg (Zg ?_)));have s1:=Zj n j;refine rL (s:=z.1) (Zb s1 rfl) (rL (s:=z.2.1) (Zb s1 rfl) (rL (s:=z.2.2.1) (Zb s1 rfl) (rL (s:=z.2.2.2.1) (Zb s1 rfl) (rL (s:=z.2.2.2.2.1) (Zb s1 rfl) (rI (Zb s1 rfl) ?_)))));have w1:sz h1=sz h+1:=t;refine ZBY (p.ext j) (fun b c=>by have:=q b c;omega) hl fun o a d l=>⟨ZZ (Zb (Zj s1 d) rfl),?_⟩;have v:sz h1<=sz o:=d.size;refine Zbe (Zj c1 d) (vs:=[slV a.1,slV a.2.1,slV a.2.2.1,slV a.2.2.2.1,slV a.2.2.2.2.1]) (fun h3 e m z3=>?_) (hv:=by simp [ZoZ,Zbp]);have w:sz h3=sz o:=z3;have u:obj h3 sb=_:=(m.old sb (Zp (Zj s1 d)) (show ¬ sb=sz h by have:=Zp n;omega)).trans (Zj s1 d);refine ⟨ZZ (Zb u rfl),Za ?_⟩;refine rL (s:=a.1) (Zb e rfl) (rL (s:=a.2.1) (Zb e rfl) (rL (s:=a.2.2.1) (Zb e rfl) (rL (s:=a.2.2.2.1) (Zb e rfl) (rL (s:=a.2.2.2.2.1) (Zb e rfl) (i h3 a ?_ ?_)))))
  ·exact (l.keep (h':=h3) fun b c f=>m.old b f (by show ¬ b=sz h;have:=c.1;omega)).mono fun b f c=>⟨by have:=c.1;omega,by have:=c.2;omega⟩
  ·exact (j.trans d).then m fun k i=>by subst i;exact Aqo _
def pick {β:Type} (eq:β->Bool):List β->List Bool->Nat->Int × List Bool
  | w::ws,u::us,i=>if u=false/\eq w=true then ((i:Int),true::us) else ((pick eq ws us (i+1)).1,u::(pick eq ws us (i+1)).2)
  | _,us,_=>(-1,us)
def Zfr {α β:Type} (same:α->β->Bool) (a:List β):List α->List Bool->List Int
  | [],_=>[]
  | r::rs,us=>(pick (same r) a us 0).1::Zfr same a rs (pick (same r) a us 0).2
theorem Zla {β:Type} {eq:β->Bool}:∀ {ws:List β} {us:List Bool} {i:Nat},(pick eq ws us i).2.length=us.length
  | [],us,i=>by cases us<;>rfl
  | w::ws,[],i=>rfl
  | w::ws,u::us,i=>by
    unfold pick;split
    ·rfl
    ·simp [Zla]
theorem ZsW {β:Type} {eq:β->Bool}:∀ {ws:List β} {us:List Bool} {i:Nat},ws.length=us.length->((pick eq ws us i).1 = -1/\(pick eq ws us i).2=us)\/∃ k w,(pick eq ws us i).1=((i+k:Nat):Int)/\ws[k]?=some w/\eq w=true/\us[k]?=some false/\(pick eq ws us i).2=us.set k true
  | [],us,i,h=>by cases us<;>exact .inl ⟨rfl,rfl⟩
  | w::ws,[],i,h=>by cases h
  | w::ws,u::us,i,h=>by
    unfold pick;split
    ·rename_i q
     exact .inr ⟨0,w,rfl,rfl,q.2,by rw [q.1];rfl,rfl⟩
    ·rcases ZsW (eq:=eq) (ws:=ws) (us:=us) (i:=i+1) (by simpa using h) with ⟨h1,a⟩ | ⟨k,w',h1,a,h3,b,c⟩
     ·exact .inl ⟨h1,by rw [a]⟩
     ·exact .inr ⟨k+1,w',by rw [h1];congr 1;omega,a,h3,b,by rw [c];rfl⟩
theorem Zrt {β:Type} {eq:β->Bool}:∀ {ws:List β} {us:List Bool} {i:Nat},ws.length=us.length->(∀ (j:Nat) (w:β),ws[j]?=some w->us[j]?=some false->eq w=false)->pick eq ws us i=(-1,us)
  | [],us,i,h,_=>by cases us<;>rfl
  | w::ws,[],i,h,_=>by cases h
  | w::ws,u::us,i,h,b=>by
    unfold pick
    have a:¬ (u=false/\eq w=true):=fun q=>by
      have:=b 0 w rfl (by rw [q.1];rfl);rw [q.2] at this;cases this
    rw [if_neg a,Zrt (by simpa using h) fun j w' h1 c=>b (j+1) w' h1 c]
theorem Zrs {β:Type} {eq:β->Bool}:∀ {ws:List β} {us:List Bool} {i k:Nat} {w:β},ws.length=us.length->ws[k]?=some w->us[k]?=some false->eq w=true->(∀ (j:Nat) (w':β),j<k->ws[j]?=some w'->us[j]?=some false->eq w'=false)->pick eq ws us i=(((i+k:Nat):Int),us.set k true)
  | [],us,i,k,w,h,h1,_,_,_=>by cases h1
  | v::ws,[],i,k,w,h,_,_,_,_=>by cases h
  | v::ws,u::us,i,0,w,h,h1,c,h3,_=>by
    cases h1;cases c;unfold pick;rw [if_pos ⟨rfl,h3⟩];rfl
  | v::ws,u::us,i,k+1,w,h,h1,c,h3,e=>by
    unfold pick
    have d:¬ (u=false/\eq v=true):=fun q=>by
      have:=e 0 v (by omega) rfl (by rw [q.1];rfl);rw [q.2] at this;cases this
    rw [if_neg d,Zrs (i:=i+1) (k:=k) (by simpa using h) h1 c h3 fun j w' f a b=>e (j+1) w' (by omega) a b];refine Prod.ext ?_ rfl;show ((i+1+k:Nat):Int)=((i+(k+1):Nat):Int);congr 1;omega
def boL (u:Bool):List Value:=[.bool u]
theorem ZqT (u:Bool):(boL u).length=1:=rfl
theorem Zzw (n:Nat):XQ [.bool false] n=(List.replicate n false).flatMap boL:=by
  unfold XQ
  induction n with
  | zero=>rfl
  | succ n a=>rw [List.replicate_succ,List.replicate_succ,List.flatten_cons,Aye,a];rfl
section
variable {α:Type} {g:α->List Value} {n:Nat} {same:α->α->Bool} {T:TypeId}
theorem ZAA (hg:∀ a,(g a).length=n) (hn:0<n) {h:Zf} {base:Nat} {p t:Sl} {B:List α} {U:List Bool} (hb:Row h p n (B.flatMap g)) (hB:B.length<=256) (hU:B.length=U.length) (ht:Own h base t 1 (U.flatMap boL)) (ai:p.len≠0->∀ b,p.blk=some b->b<base) {a:α} {c0:Nat} (R:obj h c0=some (.cells (g a).toArray T (0,0))) (aj:t.blk≠some c0)
    {ld2:Nat->Nat->Zf->Int->(Nat->Int->Zf->Prop)->Prop} {cmp:Nat->Nat->Zf->(Bool->Zf->Prop)->Prop}
    (h2:∀ b bb o m i Q,(∀ j v,(g b)[j]?=some v->ZA (o+j) (obj m bb)=some v)->(∀ h' c,Ext m h'->obj h' c=some (.cells (g b).toArray T (0,0))->Q c i h')->ld2 bb o m i Q)
    (h3:∀ b c d m Q,b∈B->Upd (fun k=>t.blk=some k) h m->obj m c=some (.cells (g a).toArray T (0,0))->obj m d=some (.cells (g b).toArray T (0,0))->(∀ h',Ext m h'->Q (same a b) h')->cmp c d m Q)
    {J:Int->Zf->Prop} (hJ:∀ h',Own h' base t 1 ((pick (same a) B U 0).2.flatMap boL)->Upd (fun k=>t.blk=some k) h h'->J (pick (same a) B U 0).1 h') :
    Yj (σ:=Int × Int × Unit) (fun C V W=>(fun (l:Int) (r:Int) =>
     Zm (decide (r<(p.len:Int))) (YR p.ptr p.len r n fun an ao=>ld2 an ao W r fun aq i D =>
      Zm (decide (l<0)) (YR t.ptr t.len i 1 fun ar au=>ldB D ar au fun t42=>Zm (!t42) (cmp c0 aq D fun t67 X =>
       Zm t67 (Zd i fun z=>YR t.ptr t.len i 1 fun av aw=>st X av aw (.bool true) fun ax=>C (z,IntKind.wrap .i64 (r+1),()) ax) (C (l,IntKind.wrap .i64 (r+1),()) X)) (C (l,IntKind.wrap .i64 (r+1),()) D)) (C (l,IntKind.wrap .i64 (r+1),()) D)) (J l W)) V.1 V.2.1) (-1,0,()) h:=by
  have aR:=Zan hg hb hn;have aS:=Zp R
  refine Zbd (fun (s:Int × Int × Unit) m=>∃ (i:Nat) (us:List Bool),s.2.1=(i:Int)/\i<=B.length/\Own m base t 1 (us.flatMap boL)/\Upd (fun k=>t.blk=some k) h m/\((s.1 = -1/\us=U/\∀ j w,j<i->B[j]?=some w->U[j]?=some false->same a w=false)\/(0<=s.1/\s.1=(pick (same a) B U 0).1/\us=(pick (same a) B U 0).2))) (fun s _=>((B.length:Int) - s.2.1).toNat)
    ⟨0,U,rfl,Ayg _,ht,Upd.refl _ _,.inl ⟨rfl,rfl,fun j w O=>by omega⟩⟩ ?_
  rintro ⟨f,_,_⟩ m ⟨i,us,rfl,aT,ho,u,hinv⟩ Q hQ;dsimp only at hinv ⊢;have E:i<B.length->IntKind.wrap .i64 ((i:Int)+1)=((i+1:Nat):Int):=fun hi=>wrS hi (by omega);have F:i<B.length->((B.length:Int) - ((i+1:Nat):Int)).toNat<((B.length:Int) - ((i:Nat):Int)).toNat:=fun hi=>by omega
  refine Zn (fun q=>?_) fun q=>?_
  ·have hi:i<B.length:=by omega
   obtain ⟨w,hw⟩:∃ w,B[i]?=some w:=⟨_,Axy hi⟩;have ay:Row m p n (B.flatMap g):=Rw.ZgC (S:=fun b=>b<base) hb (fun az b e=>ai az b e) fun b hs hl=>u.old b hl fun e=>by have:=(ht.lt e).1;omega
   obtain ⟨b,o,_,_,Y,I⟩:=ZbB hg ay hw hn;refine Y rfl (h2 w b o m _ _ I fun h5 c5 e5 aB=>?_);have y:=ho.congr (h':=h5) fun k Z _ _=>e5.old k (ho.lt Z).2;have P:=u.trans (e5.upd _)
   rcases hinv with ⟨rfl,rfl,A⟩ | ⟨f0,f1,rfl⟩
   ·refine Zl rfl ?_
    obtain ⟨x,hx⟩:∃ x,us[i]?=some x:=⟨_,Axy (by omega)⟩;obtain ⟨b4,o4,_,_,K,G⟩:=ZbB ZqT y.row hx (by decide);refine K rfl (rB (G 0 _ rfl) ⟨fun q1=>?_,fun q1=>?_⟩)
    ·have aC:x=false:=by cases x<;>simp_all
     subst aC;have aD:obj h5 c0=some (.cells (g a).toArray T (0,0)):=YZ R P aj;refine h3 w c0 c5 h5 _ (Axo hw) P aD aB fun h6 e6=>⟨fun q2=>?_,fun q2=>?_⟩
     ·have hp:=Zrs (eq:=same a) (i:=0) hU hw hx q2 A
      have L:=y.congr (h':=h6) fun k Z _ _=>e6.old k (y.lt Z).2;have u6:=P.trans (e6.upd _);obtain ⟨bb,aF,aG⟩:=Own.ptr_ L (o:=i*1) (by rw [YV ZqT];omega);have aW:=Zan ZqT L.row (by decide);refine Za ⟨bb,0,aF,by omega,by omega,?_⟩;refine Zt2 ZqT L hx (j:=0) (a':=true) (by decide) rfl rfl aG (by omega) fun h7 aH u7 z7=>?_;rw [E hi];refine hQ _ _ ⟨i+1,us.set i true,rfl,hi,aH,u6.trans u7,.inr ⟨by omega,?_,?_⟩⟩ (F hi)
      ·rw [hp];simp
      ·rw [hp]
     ·rw [E hi]
      refine hQ _ _ ⟨i+1,us,rfl,hi,y.congr (h':=h6) fun k Z _ _=>e6.old k (y.lt Z).2,P.trans (e6.upd _),.inl ⟨rfl,rfl,fun j w' O H M=>?_⟩⟩ (F hi)
      rcases (show j<i\/j=i by omega) with O | rfl
      ·exact A j w' O H M
      ·rw [hw] at H;cases H;exact q2
    ·rw [E hi]
     refine hQ _ _ ⟨i+1,us,rfl,hi,y,P,.inl ⟨rfl,rfl,fun j w' O H M=>?_⟩⟩ (F hi)
     rcases (show j<i\/j=i by omega) with O | rfl
     ·exact A j w' O H M
     ·rw [hx] at M;cases M;cases q1
   ·rw [E hi]
    exact Zi (decide_eq_false (by omega)) (hQ _ _ ⟨i+1,_,rfl,hi,y,P,.inr ⟨f0,f1,rfl⟩⟩ (F hi))
  ·have N:i=B.length:=by omega
   rcases hinv with ⟨rfl,rfl,A⟩ | ⟨f0,f1,rfl⟩
   ·have hp:=Zrt (eq:=same a) (i:=0) hU fun j w H M=>A j w (by rw [N];exact Zbw H) H M
    rw [hp] at hJ;exact hJ m ho u
   ·rw [f1]
    exact hJ m ho u
end
section
variable {α:Type} {g:α->List Value} {n:Nat} {same:α->α->Bool} {T:TypeId}
theorem ZxK (hg:∀ a,(g a).length=n) (R:0<n) {h:Zf} {now w:Sl} {A B:List α} (ha:Row h now n (A.flatMap g)) (S:Row h w n (B.flatMap g)) (hA:A.length<=256) (hB:B.length<=256)
    {ld1:Nat->Nat->Zf->(Nat->Zf->Prop)->Prop} {ld2:Nat->Nat->Zf->Int->(Nat->Int->Zf->Prop)->Prop} {cmp:Nat->Nat->Zf->(Bool->Zf->Prop)->Prop}
    (h1:∀ a U o m Q,(∀ j v,(g a)[j]?=some v->ZA (o+j) (obj m U)=some v)->(∀ h' c,Ext m h'->sz m<=c->obj h' c=some (.cells (g a).toArray T (0,0))->Q c h')->ld1 U o m Q)
    (h2:∀ b U o m i Q,(∀ j v,(g b)[j]?=some v->ZA (o+j) (obj m U)=some v)->(∀ h' c,Ext m h'->obj h' c=some (.cells (g b).toArray T (0,0))->Q c i h')->ld2 U o m i Q)
    (h3:∀ a b c d m Q,a∈A->b∈B->Ext h m->obj m c=some (.cells (g a).toArray T (0,0))->obj m d=some (.cells (g b).toArray T (0,0))->(∀ h',Ext m h'->Q (same a b) h')->cmp c d m Q)
    {K:Sl->Zf->Prop} (hK:∀ h' t,Ext h h'->Own h' (sz h) t 1 ((Zfr same B A (List.replicate B.length false)).map iv)->K t h') :
    mkS 4 1 [.bool false] (w.len:Int) (w.len:Int) h fun t h1=>Yj (σ:=Sl × Int × Unit) (fun J2 s h3=>(fun (l:Sl) (G:Int) =>
      Zm (decide (G<(now.len:Int))) (YR now.ptr now.len G n fun b o=>ld1 b o h3 fun ah ai=>Zd (-1) fun found =>
       Yj (σ:=Int × Int × Unit) (fun D V E=>(fun (e:Int) (p:Int) =>
        Zm (decide (p<(w.len:Int))) (YR w.ptr w.len p n fun aj ak=>ld2 aj ak E p fun an i F =>
         Zm (decide (e<0)) (YR t.ptr t.len i 1 fun ao aq=>ldB F ao aq fun t42=>Zm (!t42) (cmp ah an F fun t67 W =>
          Zm t67 (Zd i fun y=>YR t.ptr t.len i 1 fun ar au=>st W ar au (.bool true) fun av=>D (y,IntKind.wrap .i64 (p+1),()) av) (D (e,IntKind.wrap .i64 (p+1),()) W)) (D (e,IntKind.wrap .i64 (p+1),()) F)) (D (e,IntKind.wrap .i64 (p+1),()) F))
         (newC E [iv e] 3 fun H z=>rdS ⟨some ⟨H,0,none⟩,1,1⟩ 1 z fun new=>app 3 1 8 [iv 0] l 1 new z fun t75 I=>J2 (t75,IntKind.wrap .i64 (G+1),()) I)) V.1 V.2.1) (found,0,()) ai) (K l h3)) s.1 s.2.1) (⟨none,0,0⟩,0,()) h1:=by
  have nl:=Zan hg ha R;have wl:=Zan hg S R;have wi:=Rw.Zkr S (n:=n) R;refine ⟨by omega,Int.le_refl _,by omega,by omega,?_⟩;rw [Aqu,wl];have e0:Ext h (h.push (.cells (XQ [.bool false] B.length).toArray 4)):=Ext.push _ _;have z0:sz (h.push (.cells (XQ [.bool false] B.length).toArray 4))=sz h+1:=ZbE
  have M:Own (h.push (.cells (XQ [.bool false] B.length).toArray 4)) (sz h) ⟨some ⟨sz h,0,none⟩,B.length,B.length⟩ 1 ((List.replicate B.length false).flatMap boL):=by
    rw [<- Zzw];exact Own.newC (h:=h) (cells:=XQ [.bool false] B.length) (t:=4) (size:=1) (n:=B.length) (by rw [ZfG];simp) (by omega)
  have r:(⟨some ⟨sz h,0,none⟩,B.length,B.length⟩:Sl).blk=some (sz h):=rfl;rw [show h.size=sz h from rfl];generalize (⟨some ⟨sz h,0,none⟩,B.length,B.length⟩:Sl)=t at M r ⊢;generalize h.push (.cells (XQ [.bool false] B.length).toArray 4)=h0 at e0 z0 M ⊢;rw [<- wl]
  refine Zbd (fun (s:Sl × Int × Unit) m=>∃ (i:Nat) (us:List Bool) (L:List Int),s.2.1=(i:Int)/\i<=A.length/\us.length=B.length/\L.length=i/\Own m (sz h) t 1 (us.flatMap boL)/\Own m (sz h) s.1 1 (L.map iv)/\(∀ b,s.1.blk=some b->sz h<b)/\Ext h m/\L++Zfr same B (A.drop i) us=Zfr same B A (List.replicate B.length false)) (fun s _=>((A.length:Int) - s.2.1).toNat)
    ⟨0,_,[],rfl,Ayg _,by simp,rfl,M,Own.nil _ _ _,(fun b S=>by cases S),e0,rfl⟩ ?_
  rintro ⟨l,_,_⟩ m ⟨i,us,L,rfl,aN,X,aw,ht,hl,C,he,Y⟩ Q hQ;dsimp only at hl C ⊢;refine Zn (fun q=>?_) fun q=>?_
  ·have hi:i<A.length:=by omega
   have ga:A[i]?=some A[i]:=Axy hi;have dr:A.drop i=A[i]::A.drop (i+1):=Ayo hi;rw [dr] at Y;generalize A[i]=a at ga Y;obtain ⟨b,o,_,_,Z,N⟩:=ZbB hg (ha.ext he) ga R;refine Z rfl (h1 a b o m _ N fun h5 c5 O aR hc=>Za ?_);have w5:sz h<=sz m:=he.size;have aT:=(ht.lt r).2;have aU:m.size=sz m:=rfl;refine ZAA (a:=a) (same:=same) (J:=fun e E=>newC E [iv e] 3 fun H z=>rdS ⟨some ⟨H,0,none⟩,1,1⟩ 1 z fun new=>app 3 1 8 [iv 0] l 1 new z fun t75 I=>Q (t75,IntKind.wrap .i64 ((i:Int)+1),()) I) hg R (S.ext (he.trans O)) hB X.symm (ht.congr (h':=h5) fun k f _ _=>O.old k (ht.lt f).2) (fun az b9 x=>wi az b9 x) hc (by rw [r];intro x;cases x;omega) h2 (fun b c d h6 Q9 aA u6 x1 x2 x3=>h3 a b c d h6 Q9 (Axo ga) aA ?_ x1 x2 x3) fun h6 o6 u6=>ZJ fun h7 c7 e7 z7=>?_
   ·exact (he.trans O).then u6 fun k f=>by rw [r] at f;cases f;exact Aqo _
   have E6:Ext h h6:=(he.trans O).then u6 fun k f=>by rw [r] at f;cases f;exact Aqo _
   have aD:Own h7 (sz h) l 1 (L.map iv):=hl.congr fun k f u _=>by
     have h9:=C k f;rw [e7.old k (Aqq (Aqq u O.size) u6.size),u6.old k (Aqq u O.size) (fun x=>by rw [r] at x;cases x;omega),O.old k u]
   have bf:l.len=i:=by have:=hl.len;simp at this;omega
   have b7:h7.size=h6.size+1:=z7;refine (Zj1 c7 rfl).rd (aD.app (n:=1) rfl rfl rfl (by omega) (by omega) (by have:=E6.size;show sz h<=h7.size;have:h.size=sz h:=rfl;omega) fun l8 h8 o8 _ u8 b8=>?_)
   have aE:∀ b,l8.blk=some b->sz h<b:=fun b x=>by
     rcases b8 with e8 | e8
     ·exact C b (e8▸x)
     ·rw [e8] at x;cases x
      have:=E6.size;have:h.size=sz h:=rfl;omega
   rw [wrS hi (by omega)];refine hQ _ _ ⟨i+1,(pick (same a) B us 0).2,L++[(pick (same a) B us 0).1],rfl,hi,(by rw [Zla];exact X),(by simp [aw]),?_,?_,aE,?_,?_⟩ (by show ((A.length:Int) - ((i+1:Nat):Int)).toNat<((A.length:Int) - ((i:Nat):Int)).toNat;omega)
   ·exact (o6.congr (h':=h7) fun k f u _=>e7.old k u).congr fun k f u _=>u8.old k u fun x=>by rw [r] at f;cases f;have:=C _ x;omega
   ·rw [Ayw];exact o8
   ·exact (E6.trans e7).then u8 fun k f=>Nat.le_of_lt (C k f)
   ·rw [<- Y,Ayx];rfl
  ·have P:A.drop i=[]:=Ayq (by omega)
   rw [P,show Zfr same B [] us=[] from rfl,Ayt] at Y;rw [Y] at hl;exact hK m l he hl
end
def Zw7 (a b:FlowP):Bool:=bif Yp (Zx a.res) (Zx b.res) then (bif Yp (Zx a.org) (Zx b.org) then (bif a.thr ==b.thr then (bif a.cnt ==b.cnt then (bif (a.strat:Int) ==(b.strat:Int) then (bif Yp (Zx a.ref) (Zx b.ref) then (bif (a.shape:Int) ==(b.shape:Int) then (bif a.warm ==b.warm then (bif a.queue ==b.queue then (bif a.clu ==b.clu then (bif a.id ==b.id then (bif a.fb ==b.fb then true else false) else false) else false) else false) else false) else false) else false) else false) else false) else false) else false) else false
theorem ZD9 {h:Zf} {s w:Sl} {A B:List FlowP} (hs:Row h s 12 (A.flatMap Rw.Zfh)) (hw:Row h w 12 (B.flatMap Rw.Zfh)) (J:A.length<=256) (L:B.length<=256) {K:Sl->Zf->Prop} (r:∀ h' t,Ext h h'->Own h' (sz h) t 1 ((Zfr Zw7 B A (List.replicate B.length false)).map iv)->K t h'):Yi s w K h:=by
  unfold Yi YM
  refine ZxK (g:=Rw.Zfh) (n:=12) (T:=32) (same:=Zw7) (fun _=>rfl) (by decide) hs hw J L
    (ld1:=fun b o h3 Q=>ldS h3 b o fun t0=>ldS h3 b (o+1) fun t1=>ldB h3 b (o+2) fun t2=>ldI h3 b (o+3) .i64 fun t3=>ldI h3 b (o+4) .u8 fun t4=>ldS h3 b (o+5) fun t5=>ldI h3 b (o+6) .u8 fun t6=>ldI h3 b (o+7) .i64 fun t7=>ldI h3 b (o+8) .i64 fun t8=>ldB h3 b (o+9) fun t9=>ldI h3 b (o+10) .i64 fun t10=>ldB h3 b (o+11) fun t11=>newC h3 [Value.string (ByteArray.mk #[]),Value.string (ByteArray.mk #[]),Value.bool false,iv 0,Value.int .u8 0,Value.string (ByteArray.mk #[]),Value.int .u8 0,iv 0,iv 0,Value.bool false,iv 0,Value.bool false] 32 fun m p=>sts p m 0 [Value.string t0,Value.string t1,Value.bool t2,iv t3,Value.int .u8 t4,Value.string t5,Value.int .u8 t6,iv t7,iv t8,Value.bool t9,iv t10,Value.bool t11] fun q=>Q m q)
    (ld2:=fun b o h3 y Q=>ldS h3 b o fun t0=>ldS h3 b (o+1) fun t1=>ldB h3 b (o+2) fun t2=>ldI h3 b (o+3) .i64 fun t3=>ldI h3 b (o+4) .u8 fun t4=>ldS h3 b (o+5) fun t5=>ldI h3 b (o+6) .u8 fun t6=>ldI h3 b (o+7) .i64 fun t7=>ldI h3 b (o+8) .i64 fun t8=>ldB h3 b (o+9) fun t9=>ldI h3 b (o+10) .i64 fun t10=>ldB h3 b (o+11) fun t11=>newC h3 [Value.string (ByteArray.mk #[]),Value.string (ByteArray.mk #[]),Value.bool false,iv 0,Value.int .u8 0,Value.string (ByteArray.mk #[]),Value.int .u8 0,iv 0,iv 0,Value.bool false,iv 0,Value.bool false] 32 fun m p=>Zd y fun i=>sts p m 0 [Value.string t0,Value.string t1,Value.bool t2,iv t3,Value.int .u8 t4,Value.string t5,Value.int .u8 t6,iv t7,iv t8,Value.bool t9,iv t10,Value.bool t11] fun q=>Q m i q)
    (cmp:=fun c d f Q=>ldS f c 0 fun M=>ldS f c (0+1) fun N=>ldB f c (0+2) fun O=>ldI f c (0+3) .i64 fun P=>ldI f c (0+4) .u8 fun R=>ldS f c (0+5) fun S=>ldI f c (0+6) .u8 fun U=>ldI f c (0+7) .i64 fun V=>ldI f c (0+8) .i64 fun W=>ldB f c (0+9) fun X=>ldI f c (0+10) .i64 fun z=>ldB f c (0+11) fun C=>ldS f d 0 fun Y=>ldS f d (0+1) fun Z=>ldB f d (0+2) fun y2=>ldI f d (0+3) .i64 fun y3=>ldI f d (0+4) .u8 fun y4=>ldS f d (0+5) fun y5=>ldI f d (0+6) .u8 fun y6=>ldI f d (0+7) .i64 fun y7=>ldI f d (0+8) .i64 fun y8=>ldB f d (0+9) fun y9=>ldI f d (0+10) .i64 fun D=>ldB f d (0+11) fun E=>ZaF (M,N,O,P,R,S,U,V,W,X,z,C,()) (Y,Z,y2,y3,y4,y5,y6,y7,y8,y9,D,E,()) Q f) ?_ ?_ ?_ r
  ·intro a bb o f Q e u
   exact rS (e 0 _ rfl) (rS (e 1 _ rfl) (rB (e 2 _ rfl) (rI (e 3 _ rfl) (rI (e 4 _ rfl) (rS (e 5 _ rfl) (rI (e 6 _ rfl) (rI (e 7 _ rfl) (rI (e 8 _ rfl) (rB (e 9 _ rfl) (rI (e 10 _ rfl) (rB (e 11 _ rfl) (ZJ fun h1 c1 v G=>Zbe c1 fun x l F H=>u x _ (v.then F fun k r=>by subst r;exact Aqo _) (Aqo _) l))))))))))))
  ·intro a bb o f i Q e u
   exact rS (e 0 _ rfl) (rS (e 1 _ rfl) (rB (e 2 _ rfl) (rI (e 3 _ rfl) (rI (e 4 _ rfl) (rS (e 5 _ rfl) (rI (e 6 _ rfl) (rI (e 7 _ rfl) (rI (e 8 _ rfl) (rB (e 9 _ rfl) (rI (e 10 _ rfl) (rB (e 11 _ rfl) (ZJ fun h1 c1 v G=>Za (Zbe c1 fun x l F H=>u x _ (v.then F fun k r=>by subst r;exact Aqo _) l)))))))))))))
  ·intro a b c d f Q _ _ _ e hd u
   refine rS (Zb e rfl) (rS (Zb e rfl) (rB (Zb e rfl) (rI (Zb e rfl) (rI (Zb e rfl) (rS (Zb e rfl) (rI (Zb e rfl) (rI (Zb e rfl) (rI (Zb e rfl) (rB (Zb e rfl) (rI (Zb e rfl) (rB (Zb e rfl) (rS (Zb hd rfl) (rS (Zb hd rfl) (rB (Zb hd rfl) (rI (Zb hd rfl) (rI (Zb hd rfl) (rS (Zb hd rfl) (rI (Zb hd rfl) (rI (Zb hd rfl) (rI (Zb hd rfl) (rB (Zb hd rfl) (rI (Zb hd rfl) (rB (Zb hd rfl) (?_))))))))))))))))))))))));unfold ZaF Zcn;refine ZJ fun h1 c1 v G=>ZJ fun x l I H=>?_;have j:=Zj c1 I;exact rS (Zb j rfl) (rS (Zb j rfl) (rB (Zb j rfl) (rI (Zb j rfl) (rI (Zb j rfl) (rS (Zb j rfl) (rI (Zb j rfl) (rI (Zb j rfl) (rI (Zb j rfl) (rB (Zb j rfl) (rI (Zb j rfl) (rB (Zb j rfl) (rS (Zb l rfl) (rS (Zb l rfl) (rB (Zb l rfl) (rI (Zb l rfl) (rI (Zb l rfl) (rS (Zb l rfl) (rI (Zb l rfl) (rI (Zb l rfl) (rI (Zb l rfl) (rB (Zb l rfl) (rI (Zb l rfl) (rB (Zb l rfl) (Zc (u x (v.trans I))))))))))))))))))))))))))
def ZDE (a b:YS):Bool:=bif Yp (Zx a.res) (Zx b.res) then (bif (a.grade:Int) ==(b.grade:Int) then (bif a.cnt ==b.cnt then (bif a.slow ==b.slow then (bif a.least ==b.least then (bif a.window ==b.window then (bif a.recover ==b.recover then true else false) else false) else false) else false) else false) else false) else false
theorem ZD8 {h:Zf} {s w:Sl} {A B:List YS} (hs:Row h s 7 (A.flatMap Rw.Zdk)) (hw:Row h w 7 (B.flatMap Rw.Zdk)) (F:A.length<=256) (G:B.length<=256) {K:Sl->Zf->Prop} (r:∀ h' t,Ext h h'->Own h' (sz h) t 1 ((Zfr ZDE B A (List.replicate B.length false)).map iv)->K t h'):Z0 s w K h:=by
  unfold Z0 YI
  refine ZxK (g:=Rw.Zdk) (n:=7) (T:=52) (same:=ZDE) (fun _=>rfl) (by decide) hs hw F G
    (ld1:=fun b o h3 Q=>ldS h3 b o fun t0=>ldI h3 b (o+1) .u8 fun t1=>ldI h3 b (o+2) .i64 fun t2=>ldI h3 b (o+3) .i64 fun t3=>ldI h3 b (o+4) .i64 fun t4=>ldI h3 b (o+5) .i64 fun t5=>ldI h3 b (o+6) .i64 fun t6=>newC h3 [Value.string (ByteArray.mk #[]),Value.int .u8 0,iv 0,iv 0,iv 0,iv 0,iv 0] 52 fun l p=>sts p l 0 [Value.string t0,Value.int .u8 t1,iv t2,iv t3,iv t4,iv t5,iv t6] fun q=>Q l q)
    (ld2:=fun b o h3 y Q=>ldS h3 b o fun t0=>ldI h3 b (o+1) .u8 fun t1=>ldI h3 b (o+2) .i64 fun t2=>ldI h3 b (o+3) .i64 fun t3=>ldI h3 b (o+4) .i64 fun t4=>ldI h3 b (o+5) .i64 fun t5=>ldI h3 b (o+6) .i64 fun t6=>newC h3 [Value.string (ByteArray.mk #[]),Value.int .u8 0,iv 0,iv 0,iv 0,iv 0,iv 0] 52 fun l p=>Zd y fun i=>sts p l 0 [Value.string t0,Value.int .u8 t1,iv t2,iv t3,iv t4,iv t5,iv t6] fun q=>Q l i q)
    (cmp:=fun c d f Q=>ldS f c 0 fun H=>ldI f c (0+1) .u8 fun I=>ldI f c (0+2) .i64 fun J=>ldI f c (0+3) .i64 fun L=>ldI f c (0+4) .i64 fun M=>ldI f c (0+5) .i64 fun N=>ldI f c (0+6) .i64 fun O=>ldS f d 0 fun P=>ldI f d (0+1) .u8 fun R=>ldI f d (0+2) .i64 fun S=>ldI f d (0+3) .i64 fun U=>ldI f d (0+4) .i64 fun V=>ldI f d (0+5) .i64 fun W=>ldI f d (0+6) .i64 fun X=>ZaE (H,I,J,L,M,N,O,()) (P,R,S,U,V,W,X,()) Q f) ?_ ?_ ?_ r
  ·intro a Y o f Q e u
   exact rS (e 0 _ rfl) (rI (e 1 _ rfl) (rI (e 2 _ rfl) (rI (e 3 _ rfl) (rI (e 4 _ rfl) (rI (e 5 _ rfl) (rI (e 6 _ rfl) (ZJ fun h1 c1 v C=>Zbe c1 fun x m z D=>u x _ (v.then z fun k r=>by subst r;exact Aqo _) (Aqo _) m)))))))
  ·intro a Y o f i Q e u
   exact rS (e 0 _ rfl) (rI (e 1 _ rfl) (rI (e 2 _ rfl) (rI (e 3 _ rfl) (rI (e 4 _ rfl) (rI (e 5 _ rfl) (rI (e 6 _ rfl) (ZJ fun h1 c1 v C=>Za (Zbe c1 fun x m z D=>u x _ (v.then z fun k r=>by subst r;exact Aqo _) m))))))))
  ·intro a b c d f Q _ _ _ e hd u
   refine rS (Zb e rfl) (rI (Zb e rfl) (rI (Zb e rfl) (rI (Zb e rfl) (rI (Zb e rfl) (rI (Zb e rfl) (rI (Zb e rfl) (rS (Zb hd rfl) (rI (Zb hd rfl) (rI (Zb hd rfl) (rI (Zb hd rfl) (rI (Zb hd rfl) (rI (Zb hd rfl) (rI (Zb hd rfl) (?_))))))))))))));unfold ZaE Zcm;refine ZJ fun h1 c1 v C=>ZJ fun x m E D=>?_;have j:=Zj c1 E;exact rS (Zb j rfl) (rI (Zb j rfl) (rI (Zb j rfl) (rI (Zb j rfl) (rI (Zb j rfl) (rI (Zb j rfl) (rI (Zb j rfl) (rS (Zb m rfl) (rI (Zb m rfl) (rI (Zb m rfl) (rI (Zb m rfl) (rI (Zb m rfl) (rI (Zb m rfl) (rI (Zb m rfl) (Zc (u x (v.trans E))))))))))))))))
theorem ZkV {a b:Bool}:(bif a then b else false)=true↔a=true/\b=true:=by cases a<;>simp
theorem Zw6 (a b:FlowP):Zw7 a b=true↔a=b:=by
  unfold Zw7;simp only [ZkV,Rw.ZgZ,decide_eq_true_eq,beq_iff_eq,cond_true,Int.natCast_inj];cases a;cases b;simp [ZkV]
def ofL {α:Type} (nm:α->ByteArray) (res:ByteArray):List α->Nat->List Int
  | [],_=>[]
  | a::l,i=>if Yp (nm a) res=true then (i:Int)::ofL nm res l (i+1) else ofL nm res l (i+1)
theorem Zrw {α:Type} {A:List α} {nm:α->ByteArray} {res:ByteArray} {h:Zf} {b2 b4 J:Nat} (hx:J=A.length) (hA:A.length<=256) {T2 M:TypeId} (T:obj h b2=some (.cells [.string res].toArray T2 (0,0))) (N:obj h b4=some (.cells [slV sl0].toArray M (0,0))) (y:b2≠b4)
    {body:(ByteArray->Zf->Prop)->Int->Zf->Prop} (U:∀ (i:Nat) a d Q,A[i]?=some a->Upd (· = b4) h d->(∀ h',Ext d h'->Q (nm a) h')->body Q i d)
    {K:Sl->Zf->Prop} (V:∀ h' t,Upd (· = b4) h h'->Own h' (sz h) t 1 ((ofL nm res A 0).map iv)->K t h') :
    Yj (σ:=Int × Unit) (fun W s o=>(fun (f:Int)=>Zm (decide (f<(J:Int))) (body (fun t25 z=>Zhy f t25 (some ⟨b2,0,none⟩) (some ⟨b4,0,none⟩) (fun B=>W (IntKind.wrap .i64 (f+1),()) B) z) f o) (ldL o b4 0 fun t27=>K t27 o)) s.1) (0,()) h:=by
  have l4:=Zp N
  refine Zbd (fun (s:Int × Unit) d=>∃ (i:Nat) (L:List Int) (t:Sl),s=((i:Int),())/\i<=A.length/\L.length<=i/\Upd (· = b4) h d/\obj d b4=some (.cells [slV t].toArray M (0,0))/\Own d (sz h) t 1 (L.map iv)/\L++ofL nm res (A.drop i) i=ofL nm res A 0) (fun s _=>((A.length:Int) - s.1).toNat)
    ⟨0,[],sl0,rfl,Ayg _,Aqo _,Upd.refl _ _,N,Own.nil _ _ _,rfl⟩ ?_
  rintro _ d ⟨i,L,t,rfl,X,hL,u,c,ho,g⟩ Q O;dsimp only;refine Zn (fun q=>?_) fun q=>?_
  ·have hi:i<A.length:=by omega
   have P:A[i]?=some A[i]:=Axy hi;have Y:A.drop i=A[i]::A.drop (i+1):=Ayo hi;rw [Y] at g;generalize A[i]=a at P g;have C:IntKind.wrap .i64 ((i:Int)+1)=((i+1:Nat):Int):=wrS hi (by omega);have p:((A.length:Int) - ((i+1:Nat):Int)).toNat<((A.length:Int) - ((i:Nat):Int)).toNat:=by omega
   refine U i a d _ P u fun v w=>?_;have D:=Zj c w;have Z:obj v b2=some (.cells [.string res].toArray T2 (0,0)):=Zj (YZ T u y) w;have j:=u.trans (w.upd _);have E:=ho.congr (h':=v) fun k b _ _=>w.old k (ho.lt b).2;unfold Zhy ZjK;rw [C];rw [show ofL nm res (a::A.drop (i+1)) i=if Yp (nm a) res=true then (i:Int)::ofL nm res (A.drop (i+1)) (i+1) else ofL nm res (A.drop (i+1)) (i+1) from rfl] at g;refine Zg (rS (Zb Z rfl) ⟨fun F=>?_,fun F=>?_⟩)
   ·rw [if_pos F] at g
    refine Zg (rL (Zb D rfl) (ZJ fun r c6 m z6=>(Zj1 c6 rfl).rd ?_));have o6:=E.congr (h':=r) fun k b _ _=>m.old k (E.lt b).2;have tl:t.len=L.length:=by have:=ho.len;simp at this;omega
    have af:sz r=sz v+1:=z6;have w5:sz h<=sz v:=j.size;refine o6.app (n:=1) rfl rfl rfl (by omega) (by omega) (by show sz h<=sz r;omega) fun t7 h7 o7 _ x b7=>Zg ?_;have R:t.blk≠some b4:=fun e=>by have:=(ho.lt e).1;omega
    refine Zbf (YZ (Zj D m) x R) (show 0<1 by decide) Zbp fun o c8 u8 z8=>?_;have aj:r.size=sz r:=rfl
    have G:t7.blk≠some b4:=fun e=>by
      rcases b7 with l | l
      ·exact R (l▸e)
      ·rw [l] at e;cases e;omega
    have H:Upd (· = b4) h o:=⟨Aqp j.size (Aqp m.size (Aqp x.size u8.size)),fun k b S=>by
      have ak:k<sz h:=b
      rw [u8.old k (Aqq (Aqq (Aqq b j.size) m.size) x.size) S,x.old k (Aqq (Aqq b j.size) m.size) (fun l=>by have:=(ho.lt l).1;omega),m.old k (Aqq b j.size),j.old k b S]⟩
    refine O _ _ ⟨i+1,L++[(i:Int)],t7,rfl,hi,by simp;omega,H,c8,?_,by rw [<- g,Ayx];rfl⟩ p;rw [Ayw];exact o7.congr fun k b I _=>u8.old k I fun l=>G (l▸b)
   ·rw [if_neg (by rw [F];decide)] at g
    exact O _ _ ⟨i+1,L,t,rfl,hi,by omega,j,D,E,g⟩ p
  ·have hd:A.drop i=[]:=Ayq (by omega)
   rw [hd,show ofL nm res [] i=[] from rfl,Ayt] at g;rw [g] at ho;exact rL (Zb c rfl) (V d t u ho)
abbrev Zr6 (x:Sl):(ByteArray->Zf->Prop)->Int->Zf->Prop:=fun Q i a=>YR x.ptr x.len i 12 fun b o=>ldS a b o fun t0=>ldS a b (o+1) fun t1=>ldB a b (o+2) fun t2=>ldI a b (o+3) .i64 fun t3=>ldI a b (o+4) .u8 fun t4=>ldS a b (o+5) fun t5=>ldI a b (o+6) .u8 fun t6=>ldI a b (o+7) .i64 fun t7=>ldI a b (o+8) .i64 fun t8=>ldB a b (o+9) fun t9=>ldI a b (o+10) .i64 fun t10=>ldB a b (o+11) fun t11=>newC a [Value.string (ByteArray.mk #[]),Value.string (ByteArray.mk #[]),Value.bool false,iv 0,Value.int .u8 0,Value.string (ByteArray.mk #[]),Value.int .u8 0,iv 0,iv 0,Value.bool false,iv 0,Value.bool false] 32 fun c e=>Zd i fun _=>sts e c 0 [Value.string t0,Value.string t1,Value.bool t2,iv t3,Value.int .u8 t4,Value.string t5,Value.int .u8 t6,iv t7,iv t8,Value.bool t9,iv t10,Value.bool t11] fun d=>ldS d c 0 fun t25=>Q t25 d
theorem ZDV {A:List FlowP} {x:Sl} {h0:Zf} {b4:Nat} (h:Row h0 x 12 (A.flatMap Rw.Zfh)) (j:x.len≠0->x.blk≠some b4):∀ (i:Nat) a e (Q:ByteArray->Zf->Prop),A[i]?=some a->Upd (· = b4) h0 e->(∀ h',Ext e h'->Q ((fun f=>Zx f.res) a) h') ->
    Zr6 x Q i e:=by
  intro i a e Q l u m;obtain ⟨b,o,_,_,d,c⟩:=ZbB (g:=Rw.Zfh) (n:=12) (fun _=>rfl) (Zdn h j u) l (by decide);exact d rfl (rS (c 0 _ rfl) (rS (c 1 _ rfl) (rB (c 2 _ rfl) (rI (c 3 _ rfl) (rI (c 4 _ rfl) (rS (c 5 _ rfl) (rI (c 6 _ rfl) (rI (c 7 _ rfl) (rI (c 8 _ rfl) (rB (c 9 _ rfl) (rI (c 10 _ rfl) (rB (c 11 _ rfl) (ZJ fun h1 c1 p v=>Za (Zbe c1 fun q r s w=>rS (Zb r rfl) (m q (p.then s fun k t=>by subst t;exact Aqo _))))))))))))))))
abbrev ZpG (x:Sl):(ByteArray->Zf->Prop)->Int->Zf->Prop:=fun Q i a=>YR x.ptr x.len i 7 fun b o=>ldS a b o fun t0=>ldI a b (o+1) .u8 fun t1=>ldI a b (o+2) .i64 fun t2=>ldI a b (o+3) .i64 fun t3=>ldI a b (o+4) .i64 fun t4=>ldI a b (o+5) .i64 fun t5=>ldI a b (o+6) .i64 fun t6=>newC a [Value.string (ByteArray.mk #[]),Value.int .u8 0,iv 0,iv 0,iv 0,iv 0,iv 0] 52 fun c e=>Zd i fun _=>sts e c 0 [Value.string t0,Value.int .u8 t1,iv t2,iv t3,iv t4,iv t5,iv t6] fun d=>ldS d c 0 fun t25=>Q t25 d
theorem ZAH {A:List YS} {x:Sl} {h0:Zf} {b4:Nat} (h:Row h0 x 7 (A.flatMap Rw.Zdk)) (j:x.len≠0->x.blk≠some b4):∀ (i:Nat) a e (Q:ByteArray->Zf->Prop),A[i]?=some a->Upd (· = b4) h0 e->(∀ h',Ext e h'->Q ((fun f=>Zx f.res) a) h') ->
    ZpG x Q i e:=by
  intro i a e Q l u m;obtain ⟨b,o,_,_,d,c⟩:=ZbB (g:=Rw.Zdk) (n:=7) (fun _=>rfl) (Zdn h j u) l (by decide);exact d rfl (rS (c 0 _ rfl) (rI (c 1 _ rfl) (rI (c 2 _ rfl) (rI (c 3 _ rfl) (rI (c 4 _ rfl) (rI (c 5 _ rfl) (rI (c 6 _ rfl) (ZJ fun h1 c1 p v=>Za (Zbe c1 fun q r s w=>rS (Zb r rfl) (m q (p.then s fun k t=>by subst t;exact Aqo _)))))))))))
abbrev Zuq (x:Sl):(ByteArray->Zf->Prop)->Int->Zf->Prop:=fun Q i a=>YR x.ptr x.len i 5 fun b o=>ldS a b o fun t0=>ldI a b (o+1) .i64 fun t1=>ldI a b (o+2) .i64 fun t2=>ldI a b (o+3) .i64 fun t3=>ldL a b (o+4) fun t4=>newC a [Value.string (ByteArray.mk #[]),iv 0,iv 0,iv 0,Value.slice none 0 0] 134 fun c e=>Zd i fun _=>sts e c 0 [Value.string t0,iv t1,iv t2,iv t3,Value.slice t4.ptr t4.len t4.cap] fun d=>ldS d c 0 fun t25=>Q t25 d
theorem ZGH {A:List (Sl × Zev)} {x:Sl} {h0:Zf} {b4:Nat} (h:Row h0 x 5 (A.flatMap Rw.Zln)) (j:x.len≠0->x.blk≠some b4):∀ (i:Nat) a e (Q:ByteArray->Zf->Prop),A[i]?=some a->Upd (· = b4) h0 e->(∀ h',Ext e h'->Q ((fun f=>Zx f.2.res) a) h') ->
    Zuq x Q i e:=by
  intro i a e Q l u m;obtain ⟨b,o,_,_,c,d⟩:=ZbB (g:=Rw.Zln) (n:=5) (fun _=>rfl) (Zdn h j u) l (by decide);exact c rfl (rS (d 0 _ rfl) (rI (d 1 _ rfl) (rI (d 2 _ rfl) (rI (d 3 _ rfl) (rL (d 4 _ rfl) (ZJ fun h1 c1 p v=>Za (Zbe c1 fun q r s w=>rS (Zb r rfl) (m q (p.then s fun k t=>by subst t;exact Aqo _)))))))))
abbrev Zr5 (x:Sl):(ByteArray->Zf->Prop)->Int->Zf->Prop:=fun Q i d=>YR x.ptr x.len i 3 fun b o=>ldS d b o fun t0=>ldB d b (o+1) fun t1=>ldL d b (o+2) fun t2=>newC d [Value.string (ByteArray.mk #[]),Value.bool false,Value.slice none 0 0] 160 fun a e=>Zd i fun _=>sts e a 0 [Value.string t0,Value.bool t1,Value.slice t2.ptr t2.len t2.cap] fun c=>ldS c a 0 fun t25=>Q t25 c
theorem ZDU {A:List (Sl × ZbC)} {x:Sl} {h0:Zf} {b4:Nat} (h:Row h0 x 3 (A.flatMap Rw.Ziz)) (j:x.len≠0->x.blk≠some b4):∀ (i:Nat) a d (Q:ByteArray->Zf->Prop),A[i]?=some a->Upd (· = b4) h0 d->(∀ h',Ext d h'->Q ((fun f=>Zx f.2.res) a) h') ->
    Zr5 x Q i d:=by
  intro i a d Q l u m;obtain ⟨b,o,_,_,c,e⟩:=ZbB (g:=Rw.Ziz) (n:=3) (fun _=>rfl) (Zdn h j u) l (by decide);exact c rfl (rS (e 0 _ rfl) (rB (e 1 _ rfl) (rL (e 2 _ rfl) (ZJ fun h1 c1 p v=>Za (Zbe c1 fun q r s w=>rS (Zb r rfl) (m q (p.then s fun k t=>by subst t;exact Aqo _)))))))
theorem Zs0 {α β:Type} {nm:β->ByteArray} {res:ByteArray} {f:α->β}:∀ (l:List α) (i:Nat),ofL (fun a=>nm (f a)) res l i=ofL nm res (l.map f) i
  | [],_=>rfl
  | a::l,i=>by
    show (if _ then _ else _)=(if _ then _ else _);rw [Zs0 l (i+1)]
def ofK (r:RulesP) (kind:Int) (res:ByteArray):List Int:=if kind=1 then ofL (fun f:FlowP=>Zx f.res) res r.fl 0 else if kind=2 then ofL (fun f:YS=>Zx f.res) res r.br 0 else if kind=3 then ofL (fun f:Zev=>Zx f.res) res r.ho 0
  else if kind=4 then ofL (fun _:ZaD=>res) res r.sy 0 else if kind=5 then ofL (fun f:ZbC=>Zx f.res) res r.li 0 else []
theorem ZOJ {h:Zf} {S:Nat->Prop} {z:Rw.VTR} {r:RulesP} (x:Rw.Xe h S z r) (y:∀ b,S b->b<sz h) (hl:ZvZ r) {kind:Int} {res:ByteArray} {K:Sl->Zf->Prop} (W:∀ h' t,Ext h h'->Own h' (sz h) t 1 ((ofK r kind res).map iv)->K t h'):ZaW z kind res K h:=by
  unfold ZaW Zmd;refine ZJ fun h1 c1 X Y=>ZJ fun j Z T z2=>ZJ fun h3 v G z3=>?_;have w1:sz h1=sz h+1:=Y;have w2:sz j=sz h1+1:=z2;have w3:sz h3=sz j+1:=z3;have c:=(X.trans T).trans G;have m:=Zj (Zj c1 T) G;have d:=Zj Z G;have ne:sz h1≠sz j:=by omega
  have fin:∀ {h':Zf} {t:Sl} {L:List Int},Upd (· = sz j) h3 h'->Own h' (sz h3) t 1 (L.map iv)->L=ofK r kind res->K t h':=fun {h' t L} u o e=>by
    subst e;exact W h' t (c.then u fun k H=>by rw [H];show sz h<=sz j;omega) (o.base (by omega))
  obtain ⟨U,B,I,ae⟩:=x.ho;obtain ⟨V,C,J,af⟩:=x.li;have M:=Zi9 x.fl y c;have N:=Zi9 x.br y c;have O:=Zi9 I y c;have rs:=Zi9 x.sy y c;have P:=Zi9 J y c;have lf:=hl.f;have lb:=hl.b;have lh:=hl.h;have ls:=hl.s;have ll:=hl.l;have ag:U.length=r.ho.length:=by rw [<- B,Ayv]
  have ah:V.length=r.li.length:=by rw [<- C,Ayv]
  have big:sz h<=sz j:=by omega
  refine Zc (Z5 (fun q=>?_) fun q=>Zc (Z5 (fun w=>?_) fun w=>Zc (Z5 (fun D=>?_) fun D=>Zc (Z5 (fun E=>?_) fun E=>Zc (Z5 (fun R=>?_) fun R=>?_)))))
  ·exact rL (s:=z.1) (Zb m rfl) (Zrw (body:=Zr6 z.1) (b2:=sz h1) (b4:=sz j) (Zan (g:=Rw.Zfh) (n:=12) (fun _=>rfl) M.1 (by decide)) lf d v ne (ZDV M.1 (M.2 _ big)) fun h' t u o=>fin u o (by unfold ofK;rw [if_pos q]))
  ·exact rL (s:=z.2.1) (Zb m rfl) (Zrw (body:=ZpG z.2.1) (b2:=sz h1) (b4:=sz j) (Zan (g:=Rw.Zdk) (n:=7) (fun _=>rfl) N.1 (by decide)) lb d v ne (ZAH N.1 (N.2 _ big)) fun h' t u o=>fin u o (by unfold ofK;rw [if_neg q,if_pos w]))
  ·exact rL (s:=z.2.2.1) (Zb m rfl) (Zrw (body:=Zuq z.2.2.1) (b2:=sz h1) (b4:=sz j) (Zan (g:=Rw.Zln) (n:=5) (fun _=>rfl) O.1 (by decide)) (by omega) d v ne (ZGH O.1 (O.2 _ big)) fun h' t u o=>fin u o (by unfold ofK;rw [if_neg q,if_neg w,if_pos D,<- B];exact Zs0 (nm:=fun f:Zev=>Zx f.res) (f:=fun p:Sl × Zev=>p.2) U 0))
  ·exact rL (s:=z.2.2.2.1) (Zb m rfl) (Zrw (A:=r.sy) (nm:=fun _=>res) (b2:=sz h1) (b4:=sz j) (body:=fun Q i F=>Zd i fun _=>ldS F (sz h1) 0 fun t=>Q t F) (Zan (g:=Rw.ZgX) (n:=5) (fun _=>rfl) rs.1 (by decide)) ls d v ne (fun i a F Q _ u hq=>Za (rS (Zb (YZ d u ne) rfl) (hq F (Ext.refl _)))) fun h' t u o=>fin u o (by unfold ofK;rw [if_neg q,if_neg w,if_neg D,if_pos E]))
  ·exact rL (s:=z.2.2.2.2.1) (Zb m rfl) (Zrw (body:=Zr5 z.2.2.2.2.1) (b2:=sz h1) (b4:=sz j) (Zan (g:=Rw.Ziz) (n:=3) (fun _=>rfl) P.1 (by decide)) (by omega) d v ne (ZDU P.1 (P.2 _ big)) fun h' t u o=>fin u o (by unfold ofK;rw [if_neg q,if_neg w,if_neg D,if_neg E,if_pos R,<- C];exact Zs0 (nm:=fun f:ZbC=>Zx f.res) (f:=fun p:Sl × ZbC=>p.2) V 0))
  ·exact rL (s:=sl0) (Zb v rfl) (fin (L:=[]) (Upd.refl _ _) (Own.nil _ _ _) (by unfold ofK;rw [if_neg q,if_neg w,if_neg D,if_neg E,if_neg R]))
abbrev P4:=ByteArray × ByteArray × ByteArray × Bool × Unit
def Zas (r:F12) (c:C8):P4:=if r.2.2.2.2.1=1 then (r.2.2.2.2.2.1,ByteArray.mk #[],ByteArray.mk #[],false,()) else if r.2.2.2.2.1=2 then (if Yp c.2.2.1 r.2.2.2.2.2.1=true then (c.2.1,c.2.2.1,ByteArray.mk #[],false,()) else (ByteArray.mk #[],ByteArray.mk #[],ByteArray.mk #[],true,()))
  else if Yp r.2.1 (ByteArray.mk #[100,101,102,97,117,108,116])=true then (c.2.1,ByteArray.mk #[],ByteArray.mk #[],false,()) else (c.2.1,ByteArray.mk #[],c.2.2.2.1,false,())
theorem Ztt {r:F12} {c:C8} {h:Zf} {K:P4->Zf->Prop} (y:∀ h',Ext h h'->K (Zas r c) h'):Zb9 r c K h:=by
  unfold Zb9 ZhX;refine ZJ fun h1 c1 v D=>ZJ fun m z p E=>ZJ fun h3 A q z3=>?_;have g:=Zj (Zj c1 p) q;have f:=Zj z q;have s:=(v.trans p).trans q
  have fin:∀ {a b d:ByteArray} {e:Bool},Zas r c=(a,b,d,e,())->sts h3 m.size 0 [.string a,.string b,.string d,.bool e] fun i=>ldS i m.size 0 fun t9=>ldS i m.size (0+1) fun t10=>ldS i m.size (0+2) fun t11=>ldB i m.size (0+3) fun t12=>K (t9,t10,t11,t12,()) i:=fun {a b d e} hv =>
    Zbe A fun B o C z4=>rS (Zb o rfl) (rS (Zb o rfl) (rS (Zb o rfl) (rB (Zb o rfl) (hv▸y B (s.then C fun k t=>by subst t;exact (v.trans p).size)))))
  have w:∀ {b:Bool},(!b)=true->¬ b=true:=fun u i=>by rw [i] at u;cases u
  have x:∀ {b:Bool},(!b)=false->b=true:=fun {b} u=>by cases b<;>simp_all
  refine rI (Zb g rfl) (Zc (Z5 (fun l=>rS (Zb g rfl) (fin (if_pos l))) fun l=>Zc (Z5 (fun n=>rS (Zb f rfl) (rS (Zb g rfl) ⟨fun j=>?_,fun j=>?_⟩)) fun n=>rS (Zb g rfl) ⟨fun j=>?_,fun j=>?_⟩)))
  ·exact fin ((if_neg l).trans ((if_pos n).trans (if_neg (w j))))
  ·exact rS (Zb f rfl) (rS (Zb f rfl) (fin ((if_neg l).trans ((if_pos n).trans (if_pos (x j))))))
  ·exact rS (Zb f rfl) (rS (Zb f rfl) (fin ((if_neg l).trans ((if_neg n).trans (if_neg (w j))))))
  ·exact rS (Zb f rfl) (fin ((if_neg l).trans ((if_neg n).trans (if_pos (x j)))))
def ZlY (r:F12) (passed a count:Int):Bool:=if r.2.2.1=true then decide (a<r.2.2.2.1) else if passed<0/\IntKind.wrap .i64 (r.2.2.2.1 - passed)<r.2.2.2.1 then true else if passed>=0/\IntKind.wrap .i64 (r.2.2.2.1 - passed)>r.2.2.2.1 then false else decide (count<=IntKind.wrap .i64 (r.2.2.2.1 - passed))
theorem ZBh {r:F12} {passed a count:Int} {h:Zf} {K:Bool->Zf->Prop} (f:∀ h',Ext h h'->K (ZlY r passed a count) h'):ZeI r passed a count K h:=by
  unfold ZlY at f;unfold ZeI Zhj;refine ZJ fun h1 c1 g j=>rB (Zb c1 rfl) ⟨fun q=>rI (Zb c1 rfl) (Zc ?_),fun q=>rI (Zb c1 rfl) (Za ?_)⟩
  ·have:=f h1 g
   rwa [if_pos (show r.2.2.1=true from q)] at this
  have e:=f h1 g;rw [if_neg (show ¬ r.2.2.1=true from fun b=>by rw [show r.2.2.1=false from q] at b;cases b)] at e
  have second:¬ (passed<0/\IntKind.wrap .i64 (r.2.2.2.1 - passed)<r.2.2.2.1)->Zm (decide (passed>=0)) (ldI h1 h.size (0+3) .i64 fun t7=>Zq (decide (IntKind.wrap .i64 (r.2.2.2.1 - passed)>t7)) fun t8=>Zm t8 (K false h1) (Zq (decide (count<=IntKind.wrap .i64 (r.2.2.2.1 - passed))) fun t9=>K t9 h1)) (Zq (decide (count<=IntKind.wrap .i64 (r.2.2.2.1 - passed))) fun t10=>K t10 h1):=fun i=>by
    rw [if_neg i] at e;refine Zn (fun c=>rI (Zb c1 rfl) (Zc (Zn (fun d=>?_) fun d=>Zc ?_))) fun c=>Zc ?_
    ·rwa [if_pos ⟨c,d⟩] at e
    ·rwa [if_neg fun b=>d b.2] at e
    ·rwa [if_neg fun b=>c b.1] at e
  refine Zn (fun c=>rI (Zb c1 rfl) (Zc (Zn (fun d=>?_) fun d=>second fun b=>d b.2))) fun c=>second fun b=>c b.1;rwa [if_pos ⟨c,d⟩] at e
theorem ZA6 (b:ByteArray):∃ t:BL,b=Zx t:=⟨b.data.toList,by
  cases b
  simp [Zx]⟩
theorem ZuH (f:ZbC) (origin:ByteArray):∃ b:Bool,∀ {h:Zf} {x:Sl} {K:Bool->Zf->Prop},(f.res.length<9223372036854775807/\∀ n,n∈f.origins->n.length<9223372036854775807)->Row h x 1 (f.origins.map Rw.sV)->(∀ h',Ext h h'->K b h')->Zes (Rw.ZGQ x f) origin K h:=by
  obtain ⟨t,rfl⟩:=ZA6 origin
  by_cases q:f.err=0
  case neg =>
    refine ⟨false,fun {h x K} hl d e=>?_⟩;unfold Zes Zf9;refine ZJ fun h1 c1 a i=>rS (Zb c1 rfl) (rB (Zb c1 rfl) (rL (Zb c1 rfl) (Rw.ZhC (f:=f) (x:=x) hl (d.ext a) fun g c=>Zl (by simpa using q) (e g (a.trans c)))))
  by_cases j:Yp (Zx t) (ByteArray.mk #[])=true
  ·refine ⟨true,fun {h x K} hl d e=>?_⟩
   unfold Zes Zf9;refine ZJ fun h1 c1 a i=>rS (Zb c1 rfl) (rB (Zb c1 rfl) (rL (Zb c1 rfl) (Rw.ZhC (f:=f) (x:=x) hl (d.ext a) fun g c=>Zi (by rw [q];rfl) (Zl j (e g (a.trans c))))))
  ·refine ⟨decide (t∈f.origins) ==f.white,fun {h x K} hl d e=>?_⟩
   unfold Zes Zf9;have k:Yp (Zx t) (ByteArray.mk #[])=false:=by simpa using j
   refine ZJ fun h1 c1 a i=>rS (Zb c1 rfl) (rB (Zb c1 rfl) (rL (Zb c1 rfl) (Rw.ZhC (f:=f) (x:=x) hl (d.ext a) fun g c=>Zi (by rw [q];rfl) (Zi k (rL (s:=x) (Zb (Zj c1 c) rfl) ?_)))));exact ⟨(decide (t∈f.origins),()),Rw.Zoa (d.ext (a.trans c)) ⟨rfl,rfl⟩,rB (Zb (Zj c1 c) rfl) (Zc (e g (a.trans c)))⟩
abbrev ZGm:ByteArray:=ByteArray.mk #[100,101,102,97,117,108,116]
abbrev ZOz:ByteArray:=ByteArray.mk #[111,116,104,101,114]
theorem Zga (f:FlowP):(Rw.Zfh f).length=12:=rfl
def ZtM (f:FlowP) (origin:ByteArray) (r:FlowP):Bool:=if Yp (Zx r.res) (Zx f.res)=true then (if Yp (Zx r.org) origin=true then (if Yp origin ZGm=true then false else !(Yp origin ZOz)) else false) else false
theorem Zu6 {A:List FlowP} {x:Sl} {h:Zf} {d1 d2 d3 i:Nat} {f:FlowP} {origin:ByteArray} {T1 T2 w:TypeId} (u:Row h x 12 (A.flatMap Rw.Zfh)) (y:A[i]?=some f) (c1:obj h d1=some (.cells [slV x].toArray T1 (0,0))) (z:obj h d2=some (.cells [iv i].toArray T2 (0,0))) (B:obj h d3=some (.cells [.string origin].toArray w (0,0))) {K:Bool->Zf->Prop} (C:∀ h',Ext h h'->K (decide (ixV (ZtM f origin) A>=0)) h') :
    ZF x (some ⟨d1,0,none⟩,some ⟨d2,0,none⟩,some ⟨d3,0,none⟩,()) K h:=by
  unfold ZF ZV Ya Yg;refine Zj9 Zga u (by decide) (p:=ZtM f origin) (tst:=fun Q b o h3=>ldS h3 b o fun t0=>ldS h3 b (o+1) fun t1=>ldB h3 b (o+2) fun t2=>ldI h3 b (o+3) .i64 fun t3=>ldI h3 b (o+4) .u8 fun t4=>ldS h3 b (o+5) fun t5=>ldI h3 b (o+6) .u8 fun t6=>ldI h3 b (o+7) .i64 fun t7=>ldI h3 b (o+8) .i64 fun t8=>ldB h3 b (o+9) fun t9=>ldI h3 b (o+10) .i64 fun t10=>ldB h3 b (o+11) fun t11=>ZcB (t0,t1,t2,t3,t4,t5,t6,t7,t8,t9,t10,t11,()) (some ⟨d1,0,none⟩) (some ⟨d2,0,none⟩) (some ⟨d3,0,none⟩) Q h3) ?_ fun h3 D=>Zc (C h3 D);intro j a b o G Q H he c E;refine rS (c 0 _ rfl) (rS (c 1 _ rfl) (rB (c 2 _ rfl) (rI (c 3 _ rfl) (rI (c 4 _ rfl) (rS (c 5 _ rfl) (rI (c 6 _ rfl) (rI (c 7 _ rfl) (rI (c 8 _ rfl) (rB (c 9 _ rfl) (rI (c 10 _ rfl) (rB (c 11 _ rfl) (?_))))))))))));unfold ZcB Ze9;refine ZJ fun F v g z4=>rS (Zb v rfl) (Zg (rL (s:=x) (Zb (Zj (Zj c1 he) g) rfl) (Zg (rI (Zb (Zj (Zj z he) g) rfl) ?_))));obtain ⟨I,J,_,_,k,r⟩:=ZbB Zga (u.ext (he.trans g)) y (by decide);have t:=Zj (Zj B he) g;have q:=E F (he.trans g);unfold ZtM at q;refine k rfl (rS (r 0 _ rfl) ⟨fun l=>rS (Zb v rfl) (Zg (rS (Zb t rfl) ⟨fun n=>Zg (rS (Zb t rfl) ⟨fun m=>Zg (rS (Zb t rfl) (Zc ?_)),fun m=>?_⟩),fun n=>?_⟩)),fun l=>?_⟩)
  ·have e:¬ Yp origin ZGm=true:=fun d=>by rw [d] at m;cases m
   rwa [if_pos l,if_pos n,if_neg e] at q
  ·have e:Yp origin ZGm=true:=by cases d:Yp origin ZGm with
     | true=>rfl
     | false=>rw [d] at m;cases m
   rwa [if_pos l,if_pos n,if_pos e] at q
  ·rwa [if_pos l,if_neg (fun d=>by rw [show Yp (Zx a.org) origin=false from n] at d;cases d)] at q
  ·rwa [if_neg (fun d=>by rw [show Yp (Zx a.res) (Zx f.res)=false from l] at d;cases d)] at q
def ZA4 (A:List FlowP) (f:FlowP) (origin:ByteArray):Bool:=if Yp (Zx f.org) ZGm=true then true else if Yp (Zx f.org) origin=true then true else if Yp (Zx f.org) ZOz=true then !decide (ixV (ZtM f origin) A>=0) else false
theorem ZtE {A:List FlowP} {i:Nat} {f:FlowP} (l:A[i]?=some f) (E:A.length<=256) (origin:ByteArray) {h:Zf} {x:Sl} {K:Bool->Zf->Prop} (m:Row h x 12 (A.flatMap Rw.Zfh)) (n:∀ h',Ext h h'->K (ZA4 A f origin) h'):X6 x i origin K h:=by
  have w:=Zbw l;unfold ZA4 at n;unfold X6 Zgr;have F:=Zan Zga m (by decide);refine ZJ fun h1 c1 y G=>ZJ fun H z t I=>ZJ fun h3 u o z3=>?_;have a:=Zj (Zj c1 t) o;have c:=Zj z o;have d:=(y.trans t).trans o;have p:=n h3 d;refine rI (Zb c rfl) (Zi (decide_eq_false (by omega)) (rI (Zb c rfl) (rL (s:=x) (Zb a rfl) (Zi (decide_eq_false (by omega)) (rL (s:=x) (Zb a rfl) (rI (Zb c rfl) ?_))))));obtain ⟨J,L,_,_,k,q⟩:=ZbB Zga (m.ext d) l (by decide);have e:∀ {b:Bool},b=false->¬ b=true:=fun B v=>by rw [B] at v;cases v
  refine k rfl (rS (q 1 _ rfl) (Zc ⟨fun g=>⟨fun _=>?_,fun j=>?_⟩,fun g=>rS (Zb u rfl) (Zc ⟨fun j=>?_,fun j=>Zc ⟨fun r=>rL (s:=x) (Zb a rfl) (Zu6 (m.ext d) l a c u fun C D=>Zc ?_),fun r=>?_⟩⟩)⟩))
  ·rwa [if_pos g] at p
  ·exact (e j g).elim
  ·rwa [if_neg (e g),if_pos j] at p
  ·have:=n C (d.trans D)
   rwa [if_neg (e g),if_neg (e j),if_pos r] at this
  ·rwa [if_neg (e g),if_neg (e j),if_neg (e r)] at p
end Go.Proofs.YthbfgkphlmlihaaGreat
