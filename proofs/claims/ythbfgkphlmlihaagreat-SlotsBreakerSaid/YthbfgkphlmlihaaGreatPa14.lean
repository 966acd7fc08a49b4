/- The engine's Entry, with one breaker. -/
import Derived.Test.YthbfgkphlmlihaaGreatPa13
set_option linter.unusedVariables false
set_option linter.unusedSimpArgs false
namespace Go.Proofs.YthbfgkphlmlihaaGreat
open Go Go.Fw
open Nat renaming reduceAdd→Nqa,reduceLT→Nqb,reduceLeDiff→Nqc,reduceEqDiff→Nqd,reduceMul→Nqe
theorem ZlO {h:Zd} {eb st tb fm:Nat} {r:R5} {bq:Sl} {bb wn mb:Nat} {B0:Brk} {g:Int} {O:Nat→Prop} {E:Eng} (hE:Zdo h eb st tb fm bb wn mb r bq g O E B0) {c:C8} (hz:ZfM c) {al:List ByteArray} (ha:Row h c.2.2.2.2.2.2.1 1 (al.map .string)) {K:Int→Zd→Prop}
    (hk:∀ h' O',Zdo h' eb st tb fm bb wn mb r bq g O' { E with t:=if Yq E c al=0 then E.t.touched c else E.t } B0→Upd O h h'→Zhy O O' h h'→K (Yq E c al) h'):YR (some ⟨eb,0,none⟩) c K h:=by
  have no:∀ e (h9:Zd),Ext h h9→e≠0→Yq E c al=e→K e h9:=fun e h9 e9 h1 h2=>by
    have:=hk h9 O (by rw [if_neg (by rw [h2];exact h1)];exact hE.ext e9) (e9.upd _) ⟨fun j hj=> .inl hj,fun j hj=>hj⟩
    rwa [h2] at this
  unfold YR Zao
  have hal:c.2.2.2.2.2.2.1.len=al.length:=by have:=ha.len;simp at this;omega
  refine Yg fun h1 c1 e1 z1=>Za (rI (Zb c1 rfl) (rS (Zb c1 rfl) (rS (Zb c1 rfl) (rS (Zb c1 rfl) (rB (Zb c1 rfl) (rI (Zb c1 rfl) (rL (s:=c.2.2.2.2.2.2.1) (Zb c1 rfl) ?_)))))))
  refine Zfz (c:=c) hz fun s h2 e2 o2=>Za (Zdt (fun q1=>Za (no _ h2 (e1.trans e2) q1 (by unfold Yq;rw [if_pos q1]))) fun q1=>?_)
  have e02:=e1.trans e2
  have c2:=Zl c1 e2
  have tE:∀ {a:Int},¬ (0≤c.1∧c.1≤1152921504606846976)→K 2 h2:=fun hb=>no 2 h2 e02 (by decide) (by unfold Yq;rw [if_neg (fun h9=>h9 q1),if_pos hb])
  refine rI (Zb c2 rfl) (Zu (fun q2=>Za (tE (a:=0) (by omega))) fun q2=>rI (Zb c2 rfl) (Zu (fun q3=>Za (tE (a:=0) (by omega))) fun q3=>?_))
  have hat:0≤c.1∧c.1≤1152921504606846976:=by omega
  have cE:¬ (1≤c.2.2.2.2.2.1∧c.2.2.2.2.2.1≤1099511627776)→K 2 h2:=fun hb=>no 2 h2 e02 (by decide) (by unfold Yq;rw [if_neg (fun h9=>h9 q1),if_neg (fun h9=>h9 hat),if_pos hb])
  refine rI (Zb c2 rfl) (Zu (fun q4=>Za (cE (by omega))) fun q4=>rI (Zb c2 rfl) (Zc (Zu (fun q5=>Za (cE (by omega))) fun q5=>?_)))
  have hct:1≤c.2.2.2.2.2.1∧c.2.2.2.2.2.1≤1099511627776:=by omega
  refine rL (s:=c.2.2.2.2.2.2.1) (Zb c2 rfl) (Zu (fun q6=>Za (no 5 h2 e02 (by decide) ?_)) fun q6=>?_)
  ·unfold Yq;rw [if_neg (fun h9=>h9 q1),if_neg (fun h9=>h9 hat),if_neg (fun h9=>h9 hct),if_pos (by omega)]
  have q6':¬ 8<al.length:=by omega
  refine rL (s:=c.2.2.2.2.2.2.1) (Zb c2 rfl) (Zhn (ha.ext e02) (Zc ⟨fun q7=>Za (no 5 h2 e02 (by decide) ?_),fun q7=>?_⟩) (by omega))
  ·unfold Yq;rw [if_neg (fun h9=>h9 q1),if_neg (fun h9=>h9 hat),if_neg (fun h9=>h9 hct),if_neg q6',if_pos q7]
  have q7':¬ Zfy al=true:=by rw [q7];decide
  have E2:=hE.ext e02
  refine rI (Zb c2 rfl) (Zj (rI (Zb E2.cells rfl) (Zc (Zu (fun q8=>Za (no 7 h2 e02 (by decide) ?_)) fun q8=>?_))))
  ·unfold Yq;rw [if_neg (fun h9=>h9 q1),if_neg (fun h9=>h9 hat),if_neg (fun h9=>h9 hct),if_neg q6',if_neg q7',if_pos q8]
  refine Zj (rI (Zb E2.cells rfl) (Zc (Zu (fun q9=>Za (no 3 h2 e02 (by decide) ?_)) fun q9=>?_)))
  ·unfold Yq;rw [if_neg (fun h9=>h9 q1),if_neg (fun h9=>h9 hat),if_neg (fun h9=>h9 hct),if_neg q6',if_neg q7',if_neg q8,if_pos (show 4096≤E.fl from q9)]
  have hW:Yq E c al=E.t.touchE c:=by unfold Yq;rw [if_neg (fun h9=>h9 q1),if_neg (fun h9=>h9 hat),if_neg (fun h9=>h9 hct),if_neg q6',if_neg q7',if_neg q8,if_neg (show ¬ 4096≤E.fl from q9)]
  rw [hW] at hk
  refine Zj (rP (Zb E2.cells rfl) (rI (Zb c2 rfl) (rS (Zb c2 rfl) (rS (Zb c2 rfl) (rS (Zb c2 rfl) (rB (Zb c2 rfl) (rI (Zb c2 rfl) (rL (s:=c.2.2.2.2.2.2.1) (Zb c2 rfl) (Yg fun h3 c3 e3 z3=>⟨YM (Zb (E2.ext e3).cells rfl),?_⟩)))))))))
  have E3:=E2.ext e3
  have e03:=e02.trans e3
  refine ZjT E3.tree E3.hO hz (ZiR c3 rfl) (fun b hb h9=>?_) fun h4 O' t4 u4 g4=>Za (hk h4 O' ?_ ((e03.upd _).trans u4) (ZdI e03 g4))
  ·simp [Sl.blk] at hb
   subst hb
   have:=hE.hO _ h9
   have:sz h≤sz h2:=e02.size
   simp only [YV] at *
   omega
  ·have:(if E.t.touchE c=0 then E.t.touched c else E.t)=E.t.touched c:=by
     split
     ·rfl
     ·rename_i hne
      unfold Tree.touched
      rw [if_neg hne]
   rw [this]
   exact E3.tree' t4 u4 g4
section
variable {h:Zd} {wb eb st tb fm:Nat} {r:R5} {bq:Sl} {bb wn mb:Nat} {B0:Brk} {g:Int} {O:Nat→Prop} {E:Eng} {c:C8} {gr:Bool}
theorem Zdo.lows (hE:Zdo h eb st tb fm bb wn mb r bq g O E B0):∀ b,b=eb∨b=fm∨b=bb∨b=wn∨b=mb∨r.2.1.blk=some b∨bq.blk=some b→b<sz h:=fun b hb=>by
  have l1:=Zr hE.cells
  have l2:fm<sz h:=hE.map.lt
  have l3:=Zr hE.brk
  have l4:=hE.lw
  rcases hb with q | q | q | q | q | q | q
  ·omega
  ·omega
  ·omega
  ·omega
  ·omega
  ·exact hE.lr b (.inl q)
  ·exact hE.lr b (.inr q)
def ZjW (h h':Zd) (wb eb bb:Nat) (c:C8) (gr:Bool) (g:Int):Prop:=(sA≠c.2.1∧Ext h h')∨(sA=c.2.1∧Upd (· = wb) h h'∧∃ t xb cb,Zqo h h' wb eb bb c gr g t xb cb)
theorem Zqo.put {h0 h1 h2:Zd} {x:Nat} {t:Sl} {xb cb:Nat} (k:Zqo h0 h1 wb eb bb c gr g t xb cb) (u:Upd (· = x) h1 h2) (hx:x<sz h0) (hw:wb≠x):Zqo h0 h2 wb eb bb c gr g t xb cb :=
  ⟨(u.old wb (Zr k.walk) hw).trans k.walk,Zdl k.row u hx,(u.old xb (Zr k.x) (by have:=k.lx;show ¬ xb=x;omega)).trans k.x,(u.old cb (Zr k.c) (by have:=k.lc;show ¬ cb=x;omega)).trans k.c,k.lx,k.lc⟩
theorem Zqo.base {h0 h00 h1:Zd} {t:Sl} {xb cb:Nat} (k:Zqo h0 h1 wb eb bb c gr g t xb cb) (hl:sz h00≤sz h0):Zqo h00 h1 wb eb bb c gr g t xb cb :=
  ⟨k.walk,k.row.base hl,k.x,k.c,by have:=k.lx;omega,by have:=k.lc;omega⟩
theorem ZpO (hE:Zdo h eb st tb fm bb wn mb r bq g O E B0) (hw:obj h wb=some (ZbW eb c gr nl nl 0)) (hn:wb≠eb∧wb≠bb) (he:Yw B0.la c.1=0) {K:(Int × Int × Int × Unit)→Bool→Zd→Prop}
    (hk:∀ h',ZjW h h' wb eb bb c gr g→K ((if Zfw B0 c=true then 5 else 0),0,0,()) (Zfw B0 c) h'):Xp (some ⟨wb,0,none⟩) K h:=by
  unfold Xp Zbw
  have lwb:=Zr hw
  refine Yg fun h1 c1 e1 z1=>⟨rfl,rfl,rfl,rfl,rfl,Yg fun h2 c2 e2 z2=>ZaE c2 fun h3 c3 u3 z3=>?_⟩
  refine rI (Zb c3 rfl) (rV (Zb c3 rfl) (rI (Zb c3 rfl) (rV (Zb c3 rfl) (rI (Zb c3 rfl) (rV (Zb c3 rfl) (rI (Zb c3 rfl) (rV (Zb c3 rfl) (rI (Zb c3 rfl) (rV (Zb c3 rfl) ?_)))))))))
  have e13:Ext h1 h3:=e2.then u3 fun k hk=>by subst hk;exact Nat.le_refl _
  have e03:=e1.trans e13
  have w3:=Zl hw e03
  have E3:=hE.ext e03
  have b3:=Zl c1 e13
  have s1:sz h1=sz h+1:=z1
  have s3:sz h1≤sz h3:=e13.size
  have fin:∀ (hh h7:Zd),ZjW h3 hh wb eb bb c gr g→Upd (· = sz h) hh h7→ZjW h h7 wb eb bb c gr g:=fun hh h7 hL u7=>by
    rcases hL with ⟨q,e⟩ | ⟨q,u,t,xb,cb,k⟩
    ·exact .inl ⟨q,(e03.trans e).then u7 fun k hk=>by subst hk;exact Nat.le_refl _⟩
    ·refine .inr ⟨q,Zai ((e03.upd _).trans u) u7 (fun k hk h9=>by have h8:k=sz h:=h9;omega),t,xb,cb,(k.put u7 (by omega) (by omega)).base (by omega)⟩
  have bkeep:∀ {hh:Zd},ZjW h3 hh wb eb bb c gr g→obj hh (sz h)=obj h3 (sz h):=fun {hh} hL=>by
    rcases hL with ⟨q,e⟩ | ⟨q,u,_⟩
    ·exact Z6 e (by omega)
    ·exact u.old (sz h) (show sz h<sz h3 by omega) (show ¬ sz h=wb by omega)
  refine YX (fun p hh=>∃ j:Nat,p=((j:Int),())∧j≤5∧(j≤4→Ext h3 hh)∧(5≤j→Zfw B0 c=false∧ZjW h3 hh wb eb bb c gr g)) (fun p _=>(5 - p.1).toNat) ⟨0,rfl,by decide,fun _=>Ext.refl _,fun h9=>absurd h9 (by decide)⟩ ?_
  rintro _ hh ⟨j,rfl,hj,hle,hbl⟩ Q hQ
  dsimp only
  have nx:∀ (jj:Nat) (hy:Zd),j=jj→jj<4→Ext h3 hy→Q (IntKind.wrap .i64 ((j:Int)+1),()) hy:=fun jj hy h1 h2 ey=>by
    subst h1
    rw [XH (by omega) (by omega)]
    exact hQ _ _ ⟨j+1,rfl,by omega,fun _=>ey,fun h9=>by omega⟩ (by show (5 - ((j:Int)+1)).toNat<(5 - (j:Int)).toNat;omega)
  rcases (show j=0∨j=1∨j=2∨j=3∨j=4∨j=5 by omega) with q | q | q | q | q | q
  all_goals first
    | (have he4:=hle (by omega))
    | skip
  ·have nx:=fun hy=>nx 0 hy q (by decide)
   subst q
   have wh:=Zl w3 he4
   have Eh:=E3.ext he4
   refine Zt rfl ⟨by decide,by decide,(1,fn0 100,()),rfl,Yg fun h4 c4 e4 z4=>ZaE c4 fun h5 c5 u5 z5=>rV (Zb c5 rfl) (.inl ⟨rfl,?_⟩)⟩
   have e5:Ext hh h5:=e4.then u5 fun k hk=>by subst hk;exact Nat.le_refl _
   exact Zns (Eh.ext e5) (Zl wh e5) fun h6 e6=>Za (Zc (Zi rfl (nx h6 (he4.trans (e5.trans e6)))))
  ·have nx:=fun hy=>nx 1 hy q (by decide)
   subst q
   have wh:=Zl w3 he4
   have Eh:=E3.ext he4
   refine Zt rfl ⟨by decide,by decide,(2,fn0 101,()),rfl,Yg fun h4 c4 e4 z4=>ZaE c4 fun h5 c5 u5 z5=>rV (Zb c5 rfl) (.inr (.inl ⟨rfl,?_⟩))⟩
   have e5:Ext hh h5:=e4.then u5 fun k hk=>by subst hk;exact Nat.le_refl _
   exact Zk2 (Eh.ext e5) (Zl wh e5) fun h6 e6=>Za (Zc (Zi rfl (nx h6 (he4.trans (e5.trans e6)))))
  ·have nx:=fun hy=>nx 2 hy q (by decide)
   subst q
   have wh:=Zl w3 he4
   have Eh:=E3.ext he4
   refine Zt rfl ⟨by decide,by decide,(3,fn0 102,()),rfl,Yg fun h4 c4 e4 z4=>ZaE c4 fun h5 c5 u5 z5=>rV (Zb c5 rfl) (.inr (.inr (.inl ⟨rfl,?_⟩)))⟩
   have e5:Ext hh h5:=e4.then u5 fun k hk=>by subst hk;exact Nat.le_refl _
   exact Zp5 (Eh.ext e5) (Zl wh e5) fun h6 e6=>Za (Zc (Zi rfl (nx h6 (he4.trans (e5.trans e6)))))
  ·have nx:=fun hy=>nx 3 hy q (by decide)
   subst q
   have wh:=Zl w3 he4
   have Eh:=E3.ext he4
   refine Zt rfl ⟨by decide,by decide,(4,fn0 103,()),rfl,Yg fun h4 c4 e4 z4=>ZaE c4 fun h5 c5 u5 z5=>rV (Zb c5 rfl) (.inr (.inr (.inr (.inl ⟨rfl,?_⟩))))⟩
   have e5:Ext hh h5:=e4.then u5 fun k hk=>by subst hk;exact Nat.le_refl _
   exact ZnC (Eh.ext e5) (Zl wh e5) fun h6 e6=>Za (Zc (Zi rfl (nx h6 (he4.trans (e5.trans e6)))))
  ·subst q
   have wh:=Zl w3 he4
   have Eh:=E3.ext he4
   refine Zt rfl ⟨by decide,by decide,(5,fn0 104,()),rfl,Yg fun h4 c4 e4 z4=>ZaE c4 fun h5 c5 u5 z5=>rV (Zb c5 rfl) (.inr (.inr (.inr (.inr (.inl ⟨rfl,?_⟩)))))⟩
   have e5:Ext hh h5:=e4.then u5 fun k hk=>by subst hk;exact Nat.le_refl _
   have e35:=he4.trans e5
   have sw:wb≠sz hh:=by have:sz h3≤sz hh:=he4.size;omega
   refine ZlC (h0:=h3) (Eh.ext e5) (Zl wh e5) e35.size hn he fun h6 hr6=>Za (Zc ?_)
   have hL:ZjW h3 h6 wb eb bb c gr g:=by
     rcases hr6 with ⟨q,e⟩ | ⟨q,u,k⟩
     ·exact .inl ⟨q,e35.trans e⟩
     ·exact .inr ⟨q,(e35.upd _).trans u,k⟩
   refine ⟨fun qb=>?_,fun qb=>?_⟩
   ·rw [qb,if_pos rfl] at hk
    have c6:obj h6 (sz hh)=obj h5 (sz hh):=by
      rcases hr6 with ⟨q,e⟩ | ⟨q,u,k⟩
      ·exact Z6 e (Zr c5)
      ·exact u.old (sz hh) (Zr c5) (show ¬ sz hh=wb from Ne.symm sw)
    have c6':=c6.trans c5
    have b6:=(bkeep hL).trans b3
    exact rI (Zb c6' rfl) (ZaE b6 fun h7 c7 u7 z7=>rI (Zb c7 rfl) (rI (Zb c7 rfl) (rI (Zb c7 rfl) (hk h7 (fin h6 h7 hL u7)))))
   ·exact hQ _ _ ⟨5,by decide,by decide,fun h9=>absurd h9 (by decide),fun _=>⟨qb,hL⟩⟩ (by decide)
  ·subst q
   obtain ⟨qb,hL⟩:=hbl (by decide)
   rw [qb] at hk
   have b6:=(bkeep hL).trans b3
   exact Zi rfl (ZaE b6 fun h7 c7 u7 z7=>rI (Zb c7 rfl) (rI (Zb c7 rfl) (rI (Zb c7 rfl) (hk h7 (fin hh h7 hL u7)))))
theorem Zpk {t:Sl} {xb cb:Nat} (hx:obj h xb=some (.cells (bkL bb g).toArray 95 (0,0))) (hc:obj h cb=some (.cells [.pointer (some ⟨wb,0,none⟩)].toArray 142 (0,0))) (hw:obj h wb=some (ZbW eb c gr t nl 0)) (hb:obj h bb=some (ZkO wn B0)) (hn:wb≠bb∧xb≠bb∧cb≠bb∧xb≠wb∧cb≠wb) (he:Yw B0.la c.1=0) {K:Zd→Prop}
    (hk:∀ h' p,obj h' wb=some (ZbW eb c gr t p 0)→obj h' bb=some (ZkO wn (B0.enter c.1))→(B0.st≠2→p=nl)→Upd (fun j=>j=bb∨j=wb) h h'→K h'):Xg (some ⟨xb,0,none⟩) (some ⟨cb,0,none⟩) K h:=by
  unfold Xg ZaJ
  obtain ⟨n1,n2,n3,n4,n5⟩:=hn
  refine Zj (rP (Zb hx rfl) (Zj (rP (Zb hc rfl) (Zj (rI (Zb hw rfl) (Zmy hb he fun h1 b1 u1 z1=>?_))))))
  have c1:obj h1 cb=_:=(u1.old cb (Zr hc) n3).trans hc
  have x1:obj h1 xb=_:=(u1.old xb (Zr hx) n2).trans hx
  have w1:obj h1 wb=_:=(u1.old wb (Zr hw) n1).trans hw
  have U1:Upd (fun j=>j=bb∨j=wb) h h1:=u1.mono fun j _ hj=> .inl hj
  refine ⟨YM (Zb c1 rfl),Zc (Zc (Za ⟨fun q=>?_,fun q=>?_⟩))⟩
  ·have hq:B0.st=2:=by simp at q;exact q.2
   refine Zj (Zj (rP (Zb c1 rfl) (Zj (rP (Zb c1 rfl) (Zj (rL (s:=nl) (Zb w1 rfl) (rI (Zb x1 rfl) (Yg fun h2 c2 e2 z2=>?_))))))))
   have cb2:=Zl c1 e2
   refine ⟨YM (Zb (Zl w1 e2) rfl),YM (Zb cb2 rfl),YM (Zb cb2 rfl),(ZiR c2 rfl).rd ?_⟩
   refine (Own.nil h2 (sz h2) 1).app (n:=1) rfl rfl rfl (by decide) (by decide) (Nat.le_refl _) fun p h3 o3 _ u3 _=>?_
   have e3:Ext h2 h3:=u3.ext fun k _ hk=>by cases hk
   have cb3:=Zl cb2 e3
   have e13:=e2.trans e3
   refine ⟨YM (Zb cb3 rfl),YM (Zb cb3 rfl),Zj (ZdD (Zl w1 e13) (show 0+10<12 by decide) rfl fun h4 c4 u4 z4=>?_)⟩
   exact hk h4 p c4 ((u4.old bb (Zr (Zl b1 e13)) (Ne.symm n1)).trans (Zl b1 e13)) (fun h9=>absurd hq h9) ((U1.trans (e13.upd _)).trans (u4.mono fun j _ hj=> .inr hj))
  ·exact hk h1 nl w1 b1 (fun _=>rfl) U1
end
def ZgR (eb fm bb wn mb:Nat) (O:Nat→Prop) (j:Nat):Prop:=j=eb∨j=fm∨j=bb∨j=wn∨j=mb∨O j
inductive EnteredB (E:Eng) (B:Brk) (c:C8) (al:List ByteArray):Eng→Brk→Int→(Int × Int × Int × Unit)→Int→Prop
  | bad:Yq E c al≠0→EnteredB E B c al E B 0 (0,0,0,()) (Yq E c al)
  | block:Yq E c al=0→Zfw B c=true→EnteredB E B c al (E.block c) B 0 (5,0,0,()) 0
  | pass (m:Nat) (f:Int→Option Value):Yq E c al=0→Zfw B c=false→(B.st≠2→f=upd E.f E.nx (some (Zhk c)))→EnteredB E B c al { E.pass c m with f:=f } (if sA=c.2.1 then B.enter c.1 else B) E.nx (0,0,0,()) 0
section
variable {h:Zd} {eb st tb fm:Nat} {r:R5} {bq:Sl} {bb wn mb:Nat} {B0:Brk} {g:Int} {O:Nat→Prop} {E:Eng}
theorem Zmw (hE:Zdo h eb st tb fm bb wn mb r bq g O E B0) {c:C8} (hz:ZfM c) {al:List ByteArray} (ha:Row h c.2.2.2.2.2.2.1 1 (al.map .string)) (hbl:Yq E c al=0→Yw B0.la c.1=0)
    {K:Int→(Int × Int × Int × Unit)→Int→Zd→Prop} (hk:∀ h' O' E' B' m v e,EnteredB E B0 c al E' B' m v e→Zdo h' eb st tb fm bb wn mb r bq g O' E' B'→Upd (ZgR eb fm bb wn mb O) h h'→Zhy O O' h h'→K m v e h'):YT (some ⟨eb,0,none⟩) c false K h:=by
  unfold YT Zar
  refine Yg fun h1 c1 e1 z1=>Za (Yg fun h2 c2 e2 z2=>Za (Zi rfl (Zj ?_)))
  have e02:=e1.trans e2
  have x2:=Zl c1 e2
  have E2:=hE.ext e02
  have s1:sz h1=sz h+1:=z1
  have s2:sz h2=sz h1+1:=z2
  have lows:=hE.lows
  refine rI (Zb x2 rfl) (rS (Zb x2 rfl) (rS (Zb x2 rfl) (rS (Zb x2 rfl) (rB (Zb x2 rfl) (rI (Zb x2 rfl) (rL (s:=c.2.2.2.2.2.2.1) (Zb x2 rfl) ?_))))))
  refine ZlO E2 (c:=c) hz (ha.ext e02) fun h3 O3 E3 u3 g3=>Za ?_
  have s3:sz h2≤sz h3:=u3.size
  have nO:∀ j,sz h≤j→¬ O j:=fun j hj h9=>by have:=hE.hO j h9;omega
  have nO3:∀ j,sz h≤j→j<sz h2→¬ O3 j:=fun j hj hl h9=>by
    rcases g3.1 j h9 with q | q
    ·exact nO j hj q
    ·omega
  have x3:obj h3 (sz h)=_:=(u3.old _ (show sz h<sz h2 by omega) (nO _ (Nat.le_refl _))).trans x2
  have y3:obj h3 (sz h1)=_:=(u3.old _ (show sz h1<sz h2 by omega) (nO _ (by omega))).trans c2
  have leb:eb<sz h:=lows eb (.inl rfl)
  have lfm:fm<sz h:=lows fm (.inr (.inl rfl))
  have lbb:bb<sz h:=lows bb (.inr (.inr (.inl rfl)))
  have oo:∀ {a b:Zd},Upd O a b→Upd (ZgR eb fm bb wn mb O) a b:=fun u=>u.mono fun j _ hj=> .inr (.inr (.inr (.inr (.inr hj))))
  have oe:∀ {a b:Zd},Upd (· = eb) a b→Upd (ZgR eb fm bb wn mb O) a b:=fun u=>u.mono fun j _ hj=> .inl hj
  have U3:Upd (ZgR eb fm bb wn mb O) h h3:=(e02.upd _).trans (oo u3)
  refine Zdt (fun q=>?_) fun q=>?_
  ·rw [if_neg q] at E3
   refine Za (ZaE y3 fun h4 c4 u4 z4=>Za (rI (Zb c4 rfl) (rI (Zb c4 rfl) (rI (Zb c4 rfl) (hk h4 O3 E B0 0 (0,0,0,()) _ (.bad q) ?_ ?_ ?_)))))
   ·exact E3.frame u4 (base:=sz h) (by omega) (nO3 _ (by omega) (by omega)) lows
   ·exact Zai U3 u4 fun j hj h9=>absurd hj (by omega)
   ·exact ZfS (ZdI e02 g3) (by omega)
  rw [if_pos q] at E3
  have hbe:=hbl q
  refine rI (Zb x3 rfl) (Zj (ZdD E3.cells (show 0+18<19 by decide) rfl fun h4 c4 u4 z4=>Zj ?_))
  have E4:Zdo h4 eb st tb fm bb wn mb r bq g O3 (E.mid c) B0:=E3.set c4 u4
  have s4:sz h4=sz h3:=z4
  have neb:∀ j,sz h≤j→¬ j=eb:=fun j hj=>by omega
  have x4:obj h4 (sz h)=_:=(u4.old _ (Zr x3) (neb _ (Nat.le_refl _))).trans x3
  have y4:obj h4 (sz h1)=_:=(u4.old _ (Zr y3) (neb _ (by omega))).trans y3
  have U4:Upd (ZgR eb fm bb wn mb O) h h4:=U3.trans (oe u4)
  refine rI (Zb x4 rfl) (rS (Zb x4 rfl) (rS (Zb x4 rfl) (rS (Zb x4 rfl) (rB (Zb x4 rfl) (rI (Zb x4 rfl) (rL (s:=c.2.2.2.2.2.2.1) (Zb x4 rfl) (Yg fun h5 c5 e5 z5=>?_)))))))
  have x5:=Zl x4 e5
  have y5:=Zl y4 e5
  have s5:sz h5=sz h4+1:=z5
  refine ⟨⟨Zb x5 rfl,Zb x5 rfl,Zb x5 rfl,Zb x5 rfl,Zb x5 rfl,Zb x5 rfl,Zb x5 rfl,trivial⟩,?_⟩
  have w5:obj h5 (sz h4)=some (ZbW eb c false nl nl 0):=c5
  have E5:=E4.ext e5
  have n3:∀ j,sz h3≤j→¬ O3 j:=fun j hj h9=>by have:=E4.hO j h9;omega
  have swb:sz h4≠eb∧sz h4≠bb:=by omega
  refine ZpO E5 w5 swb hbe fun h6 hL=>?_
  have u6:Upd (· = sz h4) h5 h6:=by
    rcases hL with ⟨_,e⟩ | ⟨_,u,_⟩
    ·exact e.upd _
    ·exact u
  have s6:sz h5≤sz h6:=u6.size
  have E6:Zdo h6 eb st tb fm bb wn mb r bq g O3 (E.mid c) B0:=E5.frame u6 (base:=sz h) (by omega) (n3 _ (by omega)) lows
  have x6:obj h6 (sz h)=_:=(u6.old _ (Zr x5) (show ¬ sz h=sz h4 by omega)).trans x5
  have y6:obj h6 (sz h1)=_:=(u6.old _ (Zr y5) (show ¬ sz h1=sz h4 by omega)).trans y5
  refine Yg fun h7 c7 e7 z7=>ZaE c7 fun h8 c8 u8 z8=>Zc ?_
  have e68:Ext h6 h8:=e7.then u8 fun k hk=>by subst hk;exact Nat.le_refl _
  have E8:=E6.ext e68
  have x8:=Zl x6 e68
  have y8:=Zl y6 e68
  have s7:sz h7=sz h6+1:=z7
  have s8:sz h8=sz h7:=z8
  have U6:Upd (ZgR eb fm bb wn mb O) h h6:=Zai (U4.trans (e5.upd _)) u6 fun j hj h9=>by have h98:j=sz h4:=h9;omega
  have U8:Upd (ZgR eb fm bb wn mb O) h h8:=U6.trans (e68.upd _)
  have g8:Zhy O O3 h h8:=ZfS (ZdI e02 g3) (by omega)
  have own3:∀ {a b:Zd},Upd (ZgR eb fm bb wn mb O) h a→Upd O3 a b→sz h8≤sz a→Upd (ZgR eb fm bb wn mb O) h b:=fun U u hs=>Zai U u fun j hj h99=>by
    rcases g8.1 j h99 with q | q
    ·exact .inr (.inr (.inr (.inr (.inr q))))
    ·omega
  have wk:∃ t,obj h8 (sz h4)=some (ZbW eb c false t nl 0)∧((sA≠c.2.1∧t=nl)∨(sA=c.2.1∧∃ xb cb,Zqo h5 h8 (sz h4) eb bb c false g t xb cb)):=by
    rcases hL with ⟨q,e⟩ | ⟨q,u,t,xb,cb,k⟩
    ·exact ⟨nl,Zl (Zl w5 e) e68,.inl ⟨q,rfl⟩⟩
    ·exact ⟨t,Zl k.walk e68,.inr ⟨q,xb,cb,Zl k.walk e68,Zcs k.row e68,Zl k.x e68,Zl k.c e68,k.lx,k.lc⟩⟩
  obtain ⟨t,w8,ht⟩:=wk
  refine ⟨fun qb=>Zj (rP (Zb E8.cells rfl) ?_),fun qb=>rL (s:=t) (Zb w8 rfl) ?_⟩
  ·refine rI (Zb x8 rfl) (rS (Zb x8 rfl) (rS (Zb x8 rfl) (rS (Zb x8 rfl) (rB (Zb x8 rfl) (rI (Zb x8 rfl) (rL (s:=c.2.2.2.2.2.2.1) (Zb x8 rfl) ?_))))))
   refine ZiH (c:=c) E8.tree E8.hO hz fun er h9 O9 t9 u9 g9=>Za ?_
   have E9:=E8.tree' t9 u9 g9
   have s9:sz h8≤sz h9:=u9.size
   have c9:obj h9 (sz h6)=_:=(u9.old _ (Zr c8) (n3 (sz h6) (show sz h3≤sz h6 by omega))).trans c8
   have y9:obj h9 (sz h1)=_:=(u9.old _ (Zr y8) (nO3 _ (by omega) (by omega))).trans y8
   have nO9:∀ j,sz h≤j→j<sz h2→¬ O9 j:=fun j hj hl h99=>by
     rcases g9.1 j h99 with q | q
     ·exact nO3 j hj hl q
     ·omega
   have U9:=own3 U8 u9 (Nat.le_refl _)
   refine rI (Zb c9 rfl) (rI (Zb c9 rfl) (rI (Zb c9 rfl) (ZaE y9 fun h10 c10 u10 z10=>Za ?_)))
   rw [if_pos qb] at c10
   refine rI (Zb c10 rfl) (rI (Zb c10 rfl) (rI (Zb c10 rfl) (hk h10 O9 (E.block c) B0 0 (5,0,0,()) 0 (.block q qb) ?_ ?_ ?_)))
   ·exact E9.frame u10 (base:=sz h) (by omega) (nO9 _ (by omega) (by omega)) lows
   ·exact Zai U9 u10 fun j hj h99=>absurd hj (by omega)
   ·have s10:sz h10=sz h9:=z10
    exact Zgt g8 (by omega) (by omega) (ZfS g9 (by omega))
  have tb1:t.len≤1:=by
    rcases ht with ⟨_,rfl⟩ | ⟨_,xb,cb,k⟩
    ·decide
    ·have:=k.row.len;simp at this;omega
  refine YX (fun p hx=>(p=(0,())∧hx=h8∧t.len=1∧sA=c.2.1)∨(p.1=(t.len:Int)∧∃ pr,Zdo hx eb st tb fm bb wn mb r bq g O3 (E.mid c) (if sA=c.2.1 then B0.enter c.1 else B0)∧(B0.st≠2→pr=nl)∧obj hx (sz h)=obj h8 (sz h)∧obj hx (sz h1)=obj h8 (sz h1)∧obj hx (sz h4)=some (ZbW eb c false t pr 0)∧Upd (ZgR eb fm bb wn mb O) h hx∧sz h8≤sz hx))
    (fun p _=>(1 - p.1).toNat) ?_ ?_
  ·rcases ht with ⟨q9,rfl⟩ | ⟨q9,xb,cb,k⟩
   ·exact .inr ⟨rfl,nl,by rw [if_neg q9];exact E8,fun _=>rfl,rfl,rfl,w8,U8,Nat.le_refl _⟩
   ·exact .inl ⟨rfl,rfl,by have:=k.row.len;simp at this;omega,q9⟩
  rintro ⟨i,u⟩ hx (⟨hp,hx9,htl,hres⟩ | ⟨hp,pr,Ex,hpr,hxx,hyy,wx,Ux,sx⟩) Q hQ
  ·injection hp with hp _
   subst hp
   subst hx9
   dsimp only
   rw [htl]
   rcases ht with ⟨q9,_⟩ | ⟨_,xb,cb,k⟩
   ·exact absurd hres q9
   have hix:∀ {K:Nat→Nat→Prop},(∀ b o,Zd.cell hx b o=some (ZsX xb cb)→K b o)→Xy t.ptr 1 0 1 K:=fun {K} hk=>by
     have:=k.row.row.idx (i:=0) (n:=0) (v:=ZsX xb cb) rfl rfl (K:=K) fun b o _ hc=>hk b (o+0) hc
     rwa [htl] at this
   have klx:=k.lx
   have klc:=k.lc
   refine Zt rfl (hix fun b9 o9 hc9=>⟨_,hc9,.inl ⟨(some ⟨xb,0,none⟩,some ⟨cb,0,none⟩,()),rfl,?_⟩⟩)
   refine Zpk k.x k.c w8 E8.brk ⟨by omega,by omega,by omega,by omega,by omega⟩ hbe fun h9 p w9 b9 hp9 u9=>?_
   have s9:sz hx≤sz h9:=u9.size
   have nn:∀ {j:Nat},sz h≤j→j<sz h4→¬ (j=bb∨j=sz h4):=fun {j} h1 h2=>by omega
   have x9:obj h9 (sz h)=obj hx (sz h):=u9.old _ (Zr x8) (nn (Nat.le_refl _) (by omega))
   have y9:obj h9 (sz h1)=obj hx (sz h1):=u9.old _ (Zr y8) (nn (by omega) (by omega))
   have U9:Upd (ZgR eb fm bb wn mb O) h h9:=Zai U8 u9 fun j hj h99=>by
     rcases h99 with h98 | h98
     ·exact .inr (.inr (.inl h98))
     ·omega
   refine hQ _ _ (.inr ⟨by rw [htl];rfl,p,?_,hp9,x9,y9,w9,U9,s9⟩) (show (1 - IntKind.wrap .i64 (0+1)).toNat<(1 - (0:Int)).toNat by decide)
   rw [if_pos hres]
   have u9':Upd (fun j=>j=bb∨j=sz h4) hx h9:=u9
   refine E8.brokeW (x:=sz h4) b9 u9' (n3 _ (by omega)) (fun h99=>?_) fun b hb=>by have:=lows b hb;omega
   have h98:(B0.enter c.1).st=1:=h99
   unfold Brk.enter at h98
   dsimp only at h98
   by_cases h97:Ze0 B0 c.1=true∧B0.st=2
   ·rw [if_pos h97] at h98;cases h98
   ·rw [if_neg h97] at h98;exact h98
  dsimp only at hp ⊢
  subst hp
  have x8':=hxx.trans x8
  have y8':=hyy.trans y8
  refine Zi (by simp) (Zj (rP (Zb Ex.cells rfl) ?_))
  refine rI (Zb x8' rfl) (rS (Zb x8' rfl) (rS (Zb x8' rfl) (rS (Zb x8' rfl) (rB (Zb x8' rfl) (rI (Zb x8' rfl) (rL (s:=c.2.2.2.2.2.2.1) (Zb x8' rfl) ?_))))))
  refine ZjU (c:=c) Ex.tree Ex.hO hz fun er h9 O9 t9 u9 g9=>?_
  have E9:=Ex.tree' t9 u9 g9
  have s9:sz hx≤sz h9:=u9.size
  have x9:obj h9 (sz h)=_:=(u9.old _ (Zr x8') (nO3 _ (by omega) (by omega))).trans x8'
  have y9:obj h9 (sz h1)=_:=(u9.old _ (Zr y8') (nO3 _ (by omega) (by omega))).trans y8'
  have w9:obj h9 (sz h4)=_:=(u9.old _ (Zr wx) (n3 (sz h4) (show sz h3≤sz h4 by omega))).trans wx
  have nO9:∀ j,sz h≤j→j<sz h2→¬ O9 j:=fun j hj hl h99=>by
    rcases g9.1 j h99 with q | q
    ·exact nO3 j hj hl q
    ·omega
  have U9:=own3 Ux u9 sx
  refine ZdD x9 (show 0+6<7 by decide) rfl fun h10 c10 u10 z10=>Zj ?_
  have E10:=E9.frame u10 (base:=sz h) (Nat.le_refl _) (nO9 (sz h) (Nat.le_refl _) (show sz h<sz h2 by omega)) lows
  have y10:obj h10 (sz h1)=_:=(u10.old _ (Zr y9) (show ¬ sz h1=sz h by omega)).trans y9
  have w10:obj h10 (sz h4)=_:=(u10.old _ (Zr w9) (show ¬ sz h4=sz h by omega)).trans w9
  have U10:Upd (ZgR eb fm bb wn mb O) h h10:=Zai U9 u10 fun j hj h99=>by have h98:j=sz h:=h99;omega
  refine rI (Zb E10.cells rfl) (Za (Zj (rI (Zb E10.cells rfl) (Zj (ZdD E10.cells (show 0+17<19 by decide) rfl fun h11 c11 u11 z11=>Zj (rI (Zb c11 rfl) (Zj (ZdD c11 (show 0+16<19 by decide) rfl fun h12 c12 u12 z12=>Zj ?_))))))))
  have u112:Upd (· = eb) h10 h12:=u11.trans u12
  have E12:=E10.set (fl:=IntKind.wrap .i64 (E.fl+1)) (nx:=IntKind.wrap .i64 (E.nx+1)) (la:=c.1) c12 u112
  have x12:obj h12 (sz h)=_:=(u112.old _ (Zr c10) (neb _ (Nat.le_refl _))).trans c10
  have y12:obj h12 (sz h1)=_:=(u112.old _ (Zr y10) (neb _ (by omega))).trans y10
  have w12:obj h12 (sz h4)=_:=(u112.old _ (Zr w10) (neb _ (by omega))).trans w10
  have U12:Upd (ZgR eb fm bb wn mb O) h h12:=U10.trans (oe u112)
  refine rM (Zb E12.cells rfl) (rI (Zb x12 rfl) (rS (Zb x12 rfl) (rS (Zb x12 rfl) (rS (Zb x12 rfl) (rB (Zb x12 rfl) (rI (Zb x12 rfl) (rL (s:=nl) (Zb x12 rfl) (rL (s:=pr) (Zb w12 rfl) ?_))))))))
  refine E12.map.put E.nx _ fun h13 m13 u13 z13=>Za ?_
  have E13:=E12.mapped m13 u13
  have nfm:∀ j,sz h≤j→¬ j=fm:=fun j hj=>by omega
  have y13:obj h13 (sz h1)=_:=(u13.old _ (Zr y12) (nfm _ (by omega))).trans y12
  have w13:obj h13 (sz h4)=_:=(u13.old _ (Zr w12) (nfm _ (by omega))).trans w12
  have U13:Upd (ZgR eb fm bb wn mb O) h h13:=U12.trans (u13.mono fun j _ hj=> .inr (.inl hj))
  refine rI (Zb w13 rfl) (ZaE y13 fun h14 c14 u14 z14=>Za (rI (Zb c14 rfl) (rI (Zb c14 rfl) (rI (Zb c14 rfl) (hk h14 O9 _ _ E.nx (0,0,0,()) 0 (.pass _ _ q qb fun h99=>?_) (E13.frame u14 (base:=sz h) (by omega) (nO9 _ (by omega) (by omega)) lows) ?_ ?_)))))
  ·rw [hpr h99];rfl
  ·exact Zai U13 u14 fun j hj h99=>absurd hj (by omega)
  ·have s10:sz h10=sz h9:=z10
   have s12:sz h12=sz h10:=z12.trans z11
   have s13:sz h13=sz h12:=z13
   have s14:sz h14=sz h13:=z14
   exact Zgt g8 (by omega) (by omega) (ZfS g9 (by omega))
end
section
variable {h:Zd} {eb st tb fm:Nat} {r:R5} {bq:Sl} {bb wn mb:Nat} {B0:Brk} {g:Int} {O:Nat→Prop} {E:Eng}
theorem ZiK (hE:Zdo h eb st tb fm bb wn mb r bq g O E B0) {c:C8} (hz:ZfM c) {al:List ByteArray} (ha:Row h c.2.2.2.2.2.2.1 1 (al.map .string)) (hbl:Yq E c al=0→Yw B0.la c.1=0)
    {K:Int→(Int × Int × Int × Unit)→Int→Zd→Prop} (hk:∀ h' O' E' B' m v e,EnteredB E B0 c al E' B' m v e→Zdo h' eb st tb fm bb wn mb r bq g O' E' B'→Upd (ZgR eb fm bb wn mb O) h h'→Zhy O O' h h'→K m v e h'):Yr (some ⟨eb,0,none⟩) c K h:=by
  unfold Yr Zaq
  refine Yg fun h1 c1 e1 z1=>Za (Yg fun h2 c2 e2 z2=>Za ?_)
  have x2:=Zl c1 e2
  have e02:=e1.trans e2
  have s1:sz h1=sz h+1:=z1
  have s2:sz h2=sz h1+1:=z2
  have lows:=hE.lows
  refine rI (Zb x2 rfl) (rS (Zb x2 rfl) (rS (Zb x2 rfl) (rS (Zb x2 rfl) (rB (Zb x2 rfl) (rI (Zb x2 rfl) (rL (s:=c.2.2.2.2.2.2.1) (Zb x2 rfl) ?_))))))
  refine Zmw (hE.ext e02) (c:=c) hz (ha.ext e02) hbl fun h3 O3 E3 B3 m v e hent hE3 u3 g3=>Za ?_
  have nx:∀ j,sz h≤j→¬ ZgR eb fm bb wn mb O j:=fun j hj h9=>by
    rcases h9 with h9 | h9 | h9 | h9 | h9 | h9
    ·have:=lows eb (.inl rfl);omega
    ·have:=lows fm (.inr (.inl rfl));omega
    ·have:=lows bb (.inr (.inr (.inl rfl)));omega
    ·have:=lows wn (.inr (.inr (.inr (.inl rfl))));omega
    ·have:=lows mb (.inr (.inr (.inr (.inr (.inl rfl)))));omega
    ·have:=hE.hO j h9;omega
  have c3:obj h3 (sz h1)=_:=(u3.old (sz h1) (Zr c2) (nx (sz h1) (show sz h≤sz h1 by omega))).trans c2
  refine ZaE c3 fun h4 c4 u4 z4=>Za (rI (Zb c4 rfl) (rI (Zb c4 rfl) (rI (Zb c4 rfl) ?_)))
  have s3:sz h2≤sz h3:=u3.size
  have s4:sz h4=sz h3:=z4
  obtain ⟨v1,v2,v3,v4⟩:=v
  refine hk h4 O3 E3 B3 m _ e hent (hE3.frame u4 (base:=sz h) (by omega) (fun h9=>?_) lows) ?_ (ZfS (ZdI e02 g3) (by omega))
  ·rcases g3.1 _ h9 with q | q
   ·have:=hE.hO _ q;omega
   ·have:sz h2≤sz h1:=q.1
    omega
  ·exact Zai ((e02.upd _).trans u3) u4 fun j hj h99=>by have h98:j=sz h1:=h99;omega
theorem ZlK {v:Int} {K:Bool→Zd→Prop} (hk:K false h):YK nl v K h:=by
  unfold YK X4 XP ZaM
  refine Za (YX (fun p hh=>p=(0,())∧hh=h) (fun _ _=>0) ⟨rfl,rfl⟩ ?_)
  rintro _ hh ⟨rfl,hh9⟩ Q _
  subst hh9
  exact Zi rfl (Za (Zc hk))
theorem ZnV (hE:Zdo h eb st tb fm bb wn mb r bq g O E B0) {number at_:Int} {c:C8} (hf:E.f number=some (Zhk c)) (hz:ZfM c) (hres:sA=c.2.1) (hat:0≤at_∧at_≤1152921504606846976) (hla:E.la≤at_) (hc0:0≤c.1∧c.1≤at_) (hst:B0.st=1) (hbe:Yw B0.la at_=0)
    {K:Int→Zd→Prop} (hk:∀ h' E' B',Zdo h' eb st tb fm bb wn mb r bq g O E' B'→B'.st=2→B'.un=at_+2000000→B'.la=at_→E'.la=at_→E'.nx=E.nx→Upd (ZgR eb fm bb wn mb O) h h'→K 0 h'):XV (some ⟨eb,0,none⟩) number at_ true K h:=by
  unfold XV ZbS
  refine Za (Zi rfl (Zj (rM (Zb hE.cells rfl) (hE.map.get number ?_))))
  rw [hf]
  refine ⟨(c.1,c.2.1,c.2.2.1,c.2.2.2.1,c.2.2.2.2.1,c.2.2.2.2.2.1,nl,false,nl,()),rfl,Yg fun h1 c1 e1 z1=>ZaE c1 fun h2 c2 u2 z2=>Zc (Zc (Zi rfl (rB (Zb c2 rfl) (Zc (Zi rfl ?_)))))⟩
  have e2:Ext h h2:=e1.then u2 fun k hk=>by subst hk;exact Nat.le_refl _
  have E2:=hE.ext e2
  have U2:Upd (ZgR eb fm bb wn mb O) h h2:=e2.upd _
  have lows:=hE.lows
  refine Zu (fun q=>by omega) fun q=>Zc (Zu (fun q2=>by omega) fun q2=>?_)
  refine Zj (rI (Zb E2.cells rfl) (Zc (Zu (fun q3=>by omega) fun q3=>Zj (ZdD E2.cells (show 0+18<19 by decide) rfl fun h3 c3 u3 z3=>Zj (rM (Zb c3 rfl) ?_)))))
  have leb:eb<sz h:=lows eb (.inl rfl)
  have lfm:fm<sz h:=lows fm (.inr (.inl rfl))
  have lbb:bb<sz h:=lows bb (.inr (.inr (.inl rfl)))
  have lwn:wn<sz h:=lows wn (.inr (.inr (.inr (.inl rfl))))
  have lmb:mb<sz h:=lows mb (.inr (.inr (.inr (.inr (.inl rfl)))))
  have neb:∀ j,sz h≤j→¬ j=eb:=fun j hj=>by omega
  have nfm:∀ j,sz h≤j→¬ j=fm:=fun j hj=>by omega
  have nO:∀ j,sz h≤j→¬ O j:=fun j hj h9=>by have:=hE.hO j h9;omega
  have E3:=E2.set (fl:=E.fl) (nx:=E.nx) (la:=at_) c3 u3
  have x3:obj h3 (sz h)=_:=(u3.old (sz h) (Zr c2) (neb _ (Nat.le_refl _))).trans c2
  refine E3.map.put number Zvs fun h4 m4 u4 z4=>Zj ?_
  have E4:=E3.mapped m4 u4
  have x4:obj h4 (sz h)=_:=(u4.old (sz h) (Zr x3) (nfm _ (Nat.le_refl _))).trans x3
  refine rI (Zb E4.cells rfl) (Zj (ZdD E4.cells (show 0+16<19 by decide) rfl fun h5 c5 u5 z5=>?_))
  have E5:=E4.set (fl:=IntKind.wrap .i64 (E.fl - 1)) (nx:=E.nx) (la:=at_) c5 u5
  have x5:obj h5 (sz h)=_:=(u5.old (sz h) (Zr x4) (neb _ (Nat.le_refl _))).trans x4
  refine rI (Zb x5 rfl) (Za (ZdD x5 (show 0<9 by decide) rfl fun h6 x6 u6 z6=>Zj ?_))
  have E6:=E5.frame u6 (base:=sz h) (Nat.le_refl _) (nO _ (Nat.le_refl _)) lows
  refine rP (Zb E6.cells rfl) (rI (Zb x6 rfl) (rS (Zb x6 rfl) (rS (Zb x6 rfl) (rS (Zb x6 rfl) (rB (Zb x6 rfl) (rI (Zb x6 rfl) (rL (s:=nl) (Zb x6 rfl) ?_)))))))
  refine ZnN (c:=ZrR c at_) E6.tree E6.hO ⟨hz.a,hz.b,hz.c⟩ fun h7 t7 u7=>Zj ?_
  have E7:=E6.tree' t7 u7 ⟨fun j hj=> .inl hj,fun j hj=>hj⟩
  have x7:obj h7 (sz h)=_:=(u7.old (sz h) (Zr x6) (nO _ (Nat.le_refl _))).trans x6
  refine rL (s:=r.1) (Zb E7.cells rfl) (rL (s:=r.2.1) (Zb E7.cells rfl) (rL (s:=r.2.2.1) (Zb E7.cells rfl) (rL (s:=r.2.2.2.1) (Zb E7.cells rfl) (rL (s:=r.2.2.2.2.1) (Zb E7.cells rfl) (rS (Zb x7 rfl) ?_)))))
  have oe:∀ {a b:Zd},Upd (· = eb) a b→Upd (ZgR eb fm bb wn mb O) a b:=fun u=>u.mono fun j _ hj=> .inl hj
  have U5:Upd (ZgR eb fm bb wn mb O) h h5:=((U2.trans (oe u3)).trans (u4.mono fun j _ hj=> .inr (.inl hj))).trans (oe u5)
  have U7:Upd (ZgR eb fm bb wn mb O) h h7:=(Zai U5 u6 fun j hj h9=>by have h98:j=sz h:=h9;omega).trans (u7.mono fun j _ hj=> .inr (.inr (.inr (.inr (.inr hj)))))
  refine ZrW E7 fun h8 t8 e8 o8=>?_
  have E8:=E7.ext e8
  have x8:=Zl x7 e8
  have om:Own h8 (sz h7) t8 1 [iv 0]:=by have:=o8;unfold Zml at this;rw [if_pos hres] at this;exact this
  have htl:t8.len=1:=by have:=om.len;simp at this;omega
  have U8:=U7.trans (e8.upd _)
  have hrt:IntKind.wrap .i64 (at_ - c.1)=at_ - c.1:=XH (by omega) (by omega)
  refine YX (fun p hh=>(p=(0,())∧hh=h8)∨(p.1=1∧∃ E' B',Zdo hh eb st tb fm bb wn mb r bq g O E' B'∧B'.st=2∧B'.un=at_+2000000∧B'.la=at_∧E'.la=at_∧E'.nx=E.nx∧Upd (ZgR eb fm bb wn mb O) h hh)) (fun p _=>(1 - p.1).toNat) (.inl ⟨rfl,rfl⟩) ?_
  rintro ⟨i,u⟩ hh (⟨hq,hh9⟩ | ⟨hq,E',B',a1,a2,a3,a4,a5,a6,a7⟩) Q hQ
  case inr =>
    dsimp only at hq ⊢
    subst hq
    rw [htl]
    exact Zi rfl (Za (hk hh E' B' a1 a2 a3 a4 a5 a6 a7))
  injection hq with hq _
  subst hq
  subst hh9
  dsimp only
  rw [htl]
  have hix:∀ {K:Nat→Nat→Prop},(∀ b o,Zd.cell hh b o=some (iv 0)→K b o)→Xy t8.ptr 1 0 1 K:=fun {K} hk=>by
    have:=om.row.idx (i:=0) (n:=0) (v:=iv 0) rfl rfl (K:=K) fun b o _ hc=>hk b (o+0) hc
    rwa [htl] at this
  obtain ⟨b,o,hb,hlt,hidx,hcc⟩:=Zdj (α:=Unit) (g:=fun _=>bkL bb g) (n:=2) (fun _=>rfl) (l:=[()]) (by simpa using E8.bks) (i:=0) rfl (by decide)
  refine Zt rfl (hix fun b9 o9 hc9=>⟨0,hc9,Za (Zj (rL (s:=bq) (Zb E8.cells rfl) (hidx rfl (rP (hcc 0 _ rfl) (rI (hcc 1 _ rfl) (Yg fun h9 c9 e9 z9=>ZaE c9 fun h10 c10 u10 z10=>?_))))))⟩)
  have e10:Ext hh h10:=e9.then u10 fun k hk=>by subst hk;exact Nat.le_refl _
  have E10:=E8.ext e10
  refine rP (Zb c10 rfl) (rL (s:=nl) (Zb (Zl x8 e10) rfl) (rI (Zb c10 rfl) (ZlK ⟨YM (Zb c10 rfl),?_⟩)))
  rw [hrt]
  refine Zn0 E10.brk (E10.win hst) hst hbe ⟨by omega,by omega⟩ hE.sep.b fun h11 B11 b11 q1 q2 q3 u11=>?_
  refine hQ _ _ (.inr ⟨rfl,_,B11,E10.broke b11 u11 (fun h99=>by rw [q1] at h99;cases h99),q1,q2,q3,rfl,rfl,?_⟩) (show (1 - IntKind.wrap .i64 (0+1)).toNat<(1 - (0:Int)).toNat by decide)
  refine (U8.trans (e10.upd _)).trans (u11.mono fun j _ hj=>?_)
  rcases hj with hj | hj | hj
  ·exact .inr (.inr (.inl hj))
  ·exact .inr (.inr (.inr (.inl hj)))
  ·exact .inr (.inr (.inr (.inr (.inl hj))))
end
def E00:Eng:=⟨[],Tree.zero,0,1,0,fun _=>none,0⟩
def cAt (at_:Int):C8:=(at_,sA,ZqS,em,false,1,nl,())
theorem Zrb {at_:Int} (h:0≤at_∧at_≤1152921504606846976):Yq E00 (cAt at_) []=0:=by
  have hk:Zen (cAt at_)=0:=(show Zen (cAt at_)=Zen c0 from rfl).trans (by decide)
  have hr:E00.t.room (Z1 (cAt at_)):=by
    have h1:=Zgr (cAt at_)
    have h2:E00.t.freshN (Z1 (cAt at_))≤(Z1 (cAt at_)).length:=List.length_filter_le ..
    show 0+E00.t.freshN (Z1 (cAt at_))≤512
    omega
  unfold Yq
  rw [if_neg (fun h9=>h9 hk),if_neg (fun h9=>h9 (show 0≤at_∧at_≤1152921504606846976 from h)),if_neg (fun h9=>h9 (show 1≤(1:Int)∧(1:Int)≤1099511627776 by decide)),if_neg (by decide),if_neg (by decide),if_neg (show ¬ (cAt at_).1<E00.la by show ¬ at_<0;omega),if_neg (show ¬ 4096≤E00.fl by decide)]
  unfold Tree.touchE
  rw [if_neg (fun h9=>h9 hk),if_neg (fun h9=>h9 hr)]
structure In3 (h0 hh:Zd) (at_:Int) (eb st tb fm bb wn mb:Nat) (r:R5) (bq:Sl) (g:Int) (O:Nat→Prop) (E:Eng) (B:Brk) (i:Nat) (probes:Int):Prop where
  e:Ext h0 hh
  eng:Zdo hh eb st tb fm bb wn mb r bq g O E B
  st:(B.st=2∧B.un=at_+2000000∧probes=0)∨(B.st=3∧probes=1)
  la:B.la≤E.la
  nx:1≤E.nx∧E.nx≤i+2
  own:∀ j,ZgR eb fm bb wn mb O j→sz h0≤j
theorem ZfV {a b:Int} (h0:0≤b) (h1:b≤1152921504606846976) (h2:a≤b):Yw a b=0:=by unfold Yw;rw [if_neg (by omega),if_neg (by omega),if_neg (by omega)]
theorem Zmm {h:Zd} {at_:Int} {l:Sl} {cs:List C8} (hl:Row h l 7 (cs.flatMap c8L)) (hcs:∀ c∈cs,ZgC h c) {K:Bool→Zd→Prop} (hk:∀ h',Ext h h'→K true h'):Y9 at_ l K h:=by
  unfold Y9 XS
  have hlen:=hl.len
  rw [YZ ZkE] at hlen
  have hll:l.len=cs.length:=(Nat.eq_of_mul_eq_mul_right (by decide) hlen).symm
  have hbig:=hl.big
  have hcap:=hl.cap
  refine ZlI fun h1 hf e1=>Za (Zi rfl (Yg fun h2 c2 e2 z2=>ZaE c2 fun h3 c3 u3 z3=>rS (Zb c3 rfl) (rI (Zb c3 rfl) (rI (Zb c3 rfl) (rI (Zb c3 rfl) (rI (Zb c3 rfl) (rI (Zb c3 rfl) (rI (Zb c3 rfl) (Yg fun h4 c4 e4 z4=>?_)))))))))
  have e13:Ext h1 h3:=e2.then u3 fun k hk=>by subst hk;exact Nat.le_refl _
  have e14:=e13.trans e4
  have hf4:ZlH h4 (sz h+4) (sz h):=⟨rfl,Zl hf.cells e14,Zl hf.store e14,hf.tree.ext e14,hf.map.congr (Z6 e14 hf.map.lt)⟩
  have o4:Own h4 (sz h3) ⟨some ⟨h3.size,0,none⟩,1,1⟩ 7 ([Zn3].flatMap b7L):=⟨rfl,Nat.le_refl _,(show 1<9223372036854775808 by decide),.inr ⟨h3.size,_,_,rfl,Nat.le_refl _,c4,rfl,rfl⟩⟩
  refine ZnZ hf4 (r:=(nl,⟨some ⟨h3.size,0,none⟩,1,1⟩,nl,nl,nl,())) ⟨Own.nil _ _ _,o4,Own.nil _ _ _,Own.nil _ _ _,Own.nil _ _ _⟩ fun h5 r bq bb wn mb hE u5 b1 b2 b3=>Zi rfl ?_
  have E05:Ext h h5:=(e1.trans e14).then u5 fun k hk=>hk.1
  refine Zu (fun q=>Zkr h5 _ fun h9 e9=>Zc (hk h9 (E05.trans e9))) fun q1=>Zu (fun q=>Zkr h5 _ fun h9 e9=>Zc (hk h9 (E05.trans e9))) fun q2=>?_
  have hat:0≤at_∧at_≤1152921504606846976:=by omega
  have hE0:Zdo h5 (sz h+4) (sz h) (sz h+2) (sz h+3) bb wn mb r bq 1 (fun j=>j=sz h+1∨j=sz h+2) E00 ⟨1,0,0,0⟩:=hE
  have w1:sz h≤sz h1:=e1.size
  have w4:sz h1≤sz h4:=e14.size
  have hz0:ZfM (cAt at_):=⟨(show sA.size<9223372036854775808 by decide),(show ZqS.size<9223372036854775808 by decide),(show em.size<9223372036854775808 by decide)⟩
  refine ZiK hE0 (c:=cAt at_) hz0 (al:=[]) (Row.nil _ _) (fun _=>ZfV hat.1 hat.2 (show (0:Int)≤at_ by omega)) fun h6 O6 E6 B6 m v e hent hE6 u6 g6=>Yg fun h7 c7 e7 z7=>Za (ZaE c7 fun h8 c8 u8 z8=>Za ?_)
  have e68:Ext h6 h8:=e7.then u8 fun k hk=>by subst hk;exact Nat.le_refl _
  cases hent with
  | bad q=>exact absurd (Zrb hat) q
  | block q qb=>exact absurd qb (by show ¬ Zfw ⟨1,0,0,0⟩ (cAt at_)=true;unfold Zfw Ze0;simp)
  | pass m2 f q qb hf9 =>
  have hf1:f 1=some (Zhk (cAt at_)):=by rw [hf9 (by decide)];exact Zez _ _ _
  have hres:sA=(cAt at_).2.1:=rfl
  rw [if_pos hres] at hE6
  refine Zi rfl (Zi rfl ?_)
  have hB:(Brk.enter ⟨1,0,0,0⟩ at_).st=1:=by unfold Brk.enter;dsimp only;rw [if_neg (fun h9=>absurd h9.2 (by decide))]
  refine ZnV (hE6.ext e68) (c:=cAt at_) hf1 hz0 rfl hat (Int.le_refl _) ⟨hat.1,Int.le_refl _⟩ hB (ZfV hat.1 hat.2 (Int.le_refl _)) fun h9 E9 B9 hE9 p1 p2 p3 p4 p5 u9=>Zi rfl (Za (Za ?_))
  have lowB:∀ j,ZgR (sz h+4) (sz h+3) bb wn mb (fun j=>j=sz h+1∨j=sz h+2) j→sz h≤j:=fun j hj=>by unfold ZgR at hj;omega
  have E06:Ext h h6:=E05.then u6 lowB
  have w5:sz h≤sz h5:=E05.size
  have own6:∀ j,ZgR (sz h+4) (sz h+3) bb wn mb O6 j→sz h≤j:=fun j hj=>by
    rcases hj with hj | hj | hj | hj | hj | hj
    ·omega
    ·omega
    ·omega
    ·omega
    ·omega
    ·rcases g6.1 j hj with q9 | q9
     ·exact lowB j (.inr (.inr (.inr (.inr (.inr q9)))))
     ·omega
  have base:In3 h h9 at_ (sz h+4) (sz h) (sz h+2) (sz h+3) bb wn mb r bq 1 O6 E9 B9 0 0 :=
    ⟨(E06.trans e68).then u9 own6,hE9,.inl ⟨p1,p2,rfl⟩,by rw [p3,p4];exact Int.le_refl _,by rw [p5];show 1≤IntKind.wrap .i64 (1+1)∧IntKind.wrap .i64 (1+1)≤((0:Nat):Int)+2;decide,own6⟩
  refine YX (fun p hh=>∃ (i:Nat) (O:Nat→Prop) (E:Eng) (B:Brk),p=(p.1,(i:Int),())∧i≤cs.length∧i≤60∧In3 h hh at_ (sz h+4) (sz h) (sz h+2) (sz h+3) bb wn mb r bq 1 O E B i p.1) (fun p _=>cs.length - p.2.1.toNat) ⟨0,_,_,_,rfl,Nat.zero_le _,Nat.zero_le _,base⟩ ?_
  rintro ⟨pb,_,_⟩ hh ⟨i,O,E,B,hp,hil,hi2,hI⟩ Q hQ
  injection hp with _ hp
  injection hp with hp _
  subst hp
  dsimp only at hI ⊢
  rw [hll]
  refine Zu (fun q=>Zu (fun q2=>?_) fun q2=>Zkr hh _ fun h9 e9=>Zc (hk h9 (hI.e.trans e9))) fun q=>Zkr hh _ fun h9 e9=>Zc (hk h9 (hI.e.trans e9))
  have hi1:i<cs.length:=by omega
  have hg:cs[i]?=some cs[i]:=List.getElem?_eq_getElem hi1
  have hm:=List.getElem_mem hi1
  generalize cs[i]=c at hg hm
  obtain ⟨hz,al,ha⟩:=(hcs c hm).ext hI.e
  obtain ⟨b,o,hb,hlt,hidx,hc⟩:=Zdj ZkE (hl.ext hI.e) hg (by decide)
  have hidx':∀ {K:Nat→Nat→Prop},K b o→Xy l.ptr cs.length (i:Int) 7 K:=fun {K} hk=>by have:=hidx (K:=K) (m:=i) rfl hk;rwa [hll] at this
  refine hidx' (rI (hc 0 _ rfl) (rS (hc 1 _ rfl) (rS (hc 2 _ rfl) (rS (hc 3 _ rfl) (rB (hc 4 _ rfl) (rI (hc 5 _ rfl) (rL (s:=c.2.2.2.2.2.2.1) (hc 6 _ rfl) ?_)))))))
  have hbl:Yq E c al=0→Yw B.la c.1=0:=fun h9=>by
    have hF:=ZeN h9
    have:=hF.at_
    have:=hF.la
    have:=hI.la
    exact ZfV (by omega) (by omega) (by omega)
  refine ZiK hI.eng (c:=c) hz ha hbl fun h4 O4 E4 B4 m v e hent hE4 u4 g4=>Yg fun h5 c5 e5 z5=>Za (ZaE c5 fun h6 c6 u6 z6=>Za ?_)
  have e46:Ext h4 h6:=e5.then u6 fun k hk=>by subst hk;exact Nat.le_refl _
  have E04:Ext h h4:=hI.e.then u4 fun k hk=>hI.own k hk
  have wh:sz h≤sz hh:=hI.e.size
  have own4:∀ j,ZgR (sz h+4) (sz h+3) bb wn mb O4 j→sz h≤j:=fun j hj=>by
    rcases hj with hj | hj | hj | hj | hj | hj
    ·omega
    ·omega
    ·exact hI.own j (.inr (.inr (.inl hj)))
    ·exact hI.own j (.inr (.inr (.inr (.inl hj))))
    ·exact hI.own j (.inr (.inr (.inr (.inr (.inl hj)))))
    ·rcases g4.1 j hj with q9 | q9
     ·exact hI.own j (.inr (.inr (.inr (.inr (.inr q9)))))
     ·omega
  have hwr:IntKind.wrap .i64 ((i:Int)+1)=((i+1:Nat):Int):=wrS hi1 (by omega)
  have go:∀ (hx:Zd) (pb':Int),Ext h4 hx→((B4.st=2∧B4.un=at_+2000000∧pb'=0)∨(B4.st=3∧pb'=1))→B4.la≤E4.la→(1≤E4.nx∧E4.nx≤i+3)→Q (pb',IntKind.wrap .i64 ((i:Int)+1),()) hx:=fun hx pb' ex h1 h2 h3=>by
    rw [hwr]
    refine hQ _ _ ⟨i+1,O4,E4,B4,rfl,hi1,by omega,E04.trans ex,hE4.ext ex,h1,h2,⟨h3.1,?_⟩,own4⟩ (by show cs.length - ((i+1:Nat):Int).toNat<cs.length - ((i:Nat):Int).toNat;omega)
    have:=h3.2
    show E4.nx≤((i+1:Nat):Int)+2
    omega
  obtain ⟨b2,o2,hb2,hlt2,hidx2,hc2⟩:=Zdj ZkE (hl.ext (E04.trans e46)) hg (by decide)
  have hidx2':∀ {K:Nat→Nat→Prop},K b2 o2→Xy l.ptr cs.length (i:Int) 7 K:=fun {K} hk=>by have:=hidx2 (K:=K) (m:=i) rfl hk;rwa [hll] at this
  have hnx:=hI.nx
  have hst:=hI.st
  have hla:=hI.la
  have hp1:pb=0∨pb=1:=by rcases hst with ⟨_,_,h9⟩ | ⟨_,h9⟩<;>omega
  cases hent with
  | bad q=>exact Zt (by simpa using q) (Za (go h6 pb e46 hst hla ⟨hnx.1,by omega⟩))
  | block q qb =>
    have hF:=ZeN q
    have hFl:=hF.la
    have hla4:B.la≤(E.block c).la:=by show B.la≤c.1;omega
    unfold Zfw at qb
    rw [Bool.and_eq_true] at qb
    have hres:sA=c.2.1:=of_decide_eq_true qb.1
    refine Zi rfl (hidx2' (rS (hc2 1 _ rfl) ?_))
    rw [ZdC,decide_eq_true hres.symm]
    refine Zi rfl (ZaD (Zi rfl (Zi rfl (Zt rfl (rI (Zb c6 rfl) (Zi rfl (Zu (fun q3=>by omega) fun _=>Za (go h6 pb e46 hst hla4 ⟨hnx.1,by show E.nx≤_;omega⟩))))))))
  | pass m2 f q qb hf9 =>
    have hF:=ZeN q
    have hFl:=hF.la
    have hwn:IntKind.wrap .i64 (E.nx+1)=E.nx+1:=XH (by omega) (by omega)
    have hnx4:1≤IntKind.wrap .i64 (E.nx+1)∧IntKind.wrap .i64 (E.nx+1)≤i+3:=by rw [hwn];omega
    refine Zi rfl (hidx2' (rS (hc2 1 _ rfl) ?_))
    rw [ZdC]
    by_cases hres:sA=c.2.1
    case neg =>
      rw [if_neg hres] at go
      rw [decide_eq_false (fun h9=>hres h9.symm)]
      exact Zt rfl (Za (go h6 pb e46 hst (by show B.la≤c.1;omega) hnx4))
    rw [if_pos hres] at go
    rw [decide_eq_true hres.symm]
    have hpass:Ze0 B c.1=true:=by
      unfold Zfw at qb
      rw [decide_eq_true hres,Bool.true_and] at qb
      simpa using qb
    have hst2:B.st=2∧B.un=at_+2000000∧pb=0:=by
      rcases hst with h9 | ⟨h9,_⟩
      ·exact h9
      ·unfold Ze0 at hpass;rw [h9] at hpass;simp at hpass
    obtain ⟨t1,t2,t3⟩:=hst2
    have hun:at_+2000000≤c.1:=by
      unfold Ze0 at hpass
      rw [t1,t2] at hpass
      simpa using hpass
    have hB4:(B.enter c.1).st=3:=by unfold Brk.enter;dsimp only;rw [if_pos ⟨hpass,t1⟩]
    refine Zi rfl (ZaD (Zt (decide_eq_true (show E.nx>0 by omega)) (Za (Zt (decide_eq_true (show E.nx>0 by omega)) (hidx2' (rI (hc2 0 _ rfl) ?_))))))
    rw [XH (n:=at_+2000000) (by omega) (by omega),t3]
    refine Zu (fun q3=>by omega) fun _=>Zce (fun q3=>by omega) fun _=>Zi (by decide) (Za ?_)
    exact go h6 _ e46 (.inr ⟨hB4,by decide⟩) (Int.le_refl _) hnx4
theorem Zhb {h:Zd} {at_:Int} {l:Sl} {cs:List C8} {K:Bool→Zd→Prop} (hl:Row h l 7 (cs.flatMap c8L)∧∀ c∈cs,ZgC h c) (hk:∀ h',Ext h h'→K true h'):Y9 at_ l K h:=Zmm hl.1 hl.2 hk
end Go.Proofs.YthbfgkphlmlihaaGreat
