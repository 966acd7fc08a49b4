/- The cluster: a payload served. -/
import Derived.Test.YtbppjmcinoffnaaGreatPa15
set_option linter.unusedVariables false
set_option linter.unusedSimpArgs false
namespace Go.Proofs.YtbppjmcinoffnaaGreat
open Go Go.Fw
open Nat (reduceAdd reduceLT reduceLeDiff reduceEqDiff reduceMul)
open Tk (Zu rI rB rS rP rM rL Ziv XV held1 ZaQ wrS)
def anL (a:An):List Value:=[iv a.1,.int .u8 a.2.1,iv a.2.2.1,iv a.2.2.2.1,iv a.2.2.2.2.1]
def Cu.noted (w:Cu) (i:Nat) (r:Rq) (a:An):Cu:=if a.2.1=1 then (if r.2.1=5 then w else { w with grs:=w.grs++[(w.now,(i:Int),r.1,r)]}) else w
def Cu.said (w:Cu) (conn:Int) (a:An):Bool × Cu:=if ZcJ (Zxd a)=0 then (decide ((St.wrS w.cs conn 1 (Ze5 (Zxd a))).1=0),{ w with cs:=(St.wrS w.cs conn 1 (Ze5 (Zxd a))).2 }) else (false,w)
def Cu.serveR (w:Cu) (i:Nat) (conn:Int) (lb:List UInt8):Bool × Cu :=
  if (ZdQ lb).2.1≠0 then (false,w) else
  if (Tk.doV w.srv w.now conn (ZdQ lb).1).1.2≠0 then (false,{ w with srv:=(Tk.doV w.srv w.now conn (ZdQ lb).1).2 }) else
  (Cu.noted { w with srv:=(Tk.doV w.srv w.now conn (ZdQ lb).1).2 } i (ZdQ lb).1 (Tk.doV w.srv w.now conn (ZdQ lb).1).1.1).said conn (Tk.doV w.srv w.now conn (ZdQ lb).1).1.1
theorem Zr1 (w:Cu) (i:Nat) (r:Rq) (a:An):(w.noted i r a).pes=w.pes∧(w.noted i r a).cs=w.cs:=by
  unfold Cu.noted
  split
  ·split<;>exact ⟨rfl,rfl⟩
  ·exact ⟨rfl,rfl⟩
theorem Zru (lb:List UInt8):(ZdQ lb).1.2.2.2.2.1.size<9223372036854775808:=by
  unfold ZdQ
  split
  ·show (zR.2.2.2.2.1:ByteArray).size<_
   decide
  ·show (Zmo lb).size<_
   unfold Zmo
   split
   ·have h1:tl lb≤255:=by
      unfold tl
      split
      ·have:=(lb.getD 33 0).toNat_lt;omega
      ·omega
    show (((lb.drop 34).take (tl lb)).toArray).size<_
    rw [List.size_toArray,List.length_take]
    omega
   ·decide
theorem Zsw (p:List UInt8):(Ze5 p).length≤4100:=by
  unfold Ze5
  split
  ·simp
  ·rename_i h
   simp only [Zd2,List.length_append,List.length_cons,List.length_nil]
   omega
theorem ZtF {h:Zb} {b:Nat} {l:List Value} {t:TypeId} (hc:obj h b=some (.cells l.toArray t (0,0))) {vs:List Value} (hl:l.length=vs.length) (hv:vs.all Zv=true) (hp:ZeC 0 vs l=vs) {K:Zb→Prop}
    (hk:∀ h',obj h' b=some (.cells vs.toArray t (0,0))→Upd (· = b) h h'→sz h'=sz h→K h'):sts h b 0 vs K:=by
  rw [Zi2 (by rw [hc,ZgU,hl];simp) hv]
  refine hk _ ?_ (Zb4 (Upd.refl _ _) (.inr rfl)) Zc8
  rw [ZiK,if_pos rfl,hc,Zeb,hp]
section
variable {h h':Zb} {T:TT} {wb nb sb:Nat} {sp sg:Sl} {pl:List Pm} {w:Cu}
theorem Zz8 {b n:Nat} {l:List Value} {t:TypeId} {f:Nat × Nat} (c:obj h b=some (.cells l.toArray t f)) (hl:l.length=n):Row h ⟨some ⟨b,0,none⟩,1,1⟩ n l :=
  ⟨by rw [Nat.one_mul];exact hl,Nat.le_refl _,(show 1<9223372036854775808 by decide),.inr ⟨b,0,rfl,Zas c fun i v hi=>by simpa using hi⟩⟩
theorem WR.grow (hR:WR h T wb nb sb sp sg pl w) {s':Sl} {g:Gt} (ho:Own h' 0 s' 9 ((w.grs++[g]).flatMap gtL)) (hu:Upd (fun k=>sg.blk=some k) h h') (hb:s'.blk=sg.blk∨s'.blk=some h.size) {K:Zb→Prop}
    (hk:∀ h2 T',WR h2 T' wb nb sb sp s' pl { w with grs:=w.grs++[g]}→Zav T T' h h2→(∀ k,T k=none→k<sz h→T' k=none∧obj h2 k=obj h k)→K h2):st h' wb 5 (slV s') K:=by
  have hw:¬ sg.blk=some wb:=fun e=>by
    have:=hR.tsg wb e
    rw [hR.twb] at this
    cases this
  have c1:=XG hR.cells hu hw
  refine Ziv c1 (by decide:5<6) ZgC fun h2 c2 u2 z2=>?_
  have lo:∀ k,s'.blk=some k→T k=some (0,2)∨h.size≤k:=fun k hk=>by
    rcases hb with e | e
    ·rw [e] at hk;exact .inl (hR.tsg k hk)
    ·rw [e] at hk;cases hk;exact .inr (Nat.le_refl _)
  have hu2:Upd (fun k=>∃ t,T k=some (0,t)) h h2:=Upd.then (hu.mono fun k _ hk=>⟨2,hR.tsg k hk⟩) u2 fun k _ hk=>⟨0,by rw [hk];exact hR.twb⟩
  have old:∀ k,k<sz h→(∀ t,T k≠some (0,t))→h2[k]?=h[k]?:=fun k hk hn=>hu2.old k hk fun ⟨t,e⟩=>hn t e
  have z2':sz h2=sz h':=z2
  have hT:∀ k,T k≠none→(if s'.blk=some k then some (0,2) else T k)=T k:=fun k hk=>by
    split
    ·rename_i e
     rcases lo k e with h1 | h1
     ·exact h1.symm
     ·exact (hk (hR.no h1)).elim
    ·rfl
  have hsp:∀ b,sp.blk=some b→h2[b]?=h[b]?:=fun b hb'=>by
    have tb:=hR.tsp b hb'
    have hl:b<sz h:=hR.lt b (by rw [tb];exact fun e=>by cases e)
    have n1:b≠wb:=fun e=>by rw [e,hR.twb] at tb;cases tb
    have n2:¬ sg.blk=some b:=fun e=>by rw [hR.tsg b e] at tb;cases tb
    exact (u2.old b (Nat.lt_of_lt_of_le hl hu.size) n1).trans (hu.old b hl n2)
  obtain ⟨h3,h4⟩:=hR.zero hu2 (T':=fun k=>if s'.blk=some k then some (0,2) else T k) hT (fun k hk=>by
      by_cases e:s'.blk=some k
      ·rcases lo k e with h1 | h1
       ·exact .inl (by rw [h1];exact fun e=>by cases e)
       ·exact .inr ⟨h1,(by rw [z2'];exact (ho.lt e).2),2,if_pos e⟩
      ·rw [if_neg e] at hk;exact .inl hk) (sg':=s') (pl':=pl) (w':={ w with grs:=w.grs++[g]}) c2 (hR.row.congr fun b hb' _ _=>hsp b hb')
    (ho.congr fun b hb' _ _=>u2.old b (ho.lt hb').2 fun e=>by
      rcases lo b hb' with h1 | h1
      ·rw [e,hR.twb] at h1;cases h1
      ·have:=hR.lt wb (by rw [hR.twb];exact fun e=>by cases e)
       rw [e] at h1
       have h1:sz h≤wb:=h1
       omega) (fun k hk=>(hT k (by rw [hR.tsp k hk];exact fun e=>by cases e)).trans (hR.tsp k hk)) (fun k hk=>if_pos hk) hR.pes rfl rfl rfl (fun i x hx=>hR.cls i x hx) fun i x l br hx hr=>hR.rds i x l br hx hr
  refine hk h2 _ h3 h4 fun k hk hl=>⟨?_,old k hl fun t e=>by rw [hk] at e;cases e⟩
  show (if s'.blk=some k then some (0,2) else T k)=none
  rw [if_neg fun e=>?_]
  ·exact hk
  ·rcases lo k e with h1 | h1
   ·rw [hk] at h1;cases h1
   ·have h1:sz h≤k:=h1
    omega
theorem ZpE (hW:Wld h T wb sp w) (hok:w.srv.OK) (hg:w.grs.length≤1099511627776) (hn:∀ c j,c∈w.cs→j<2→(c.side j).way.length≤65536) {i:Nat} {p:Pe} (hp:w.pes[i]?=some p) {b:Nat} (hb:sp.blk=some b) {s:Sl} {lb:List UInt8} (hs:Bytes h s lb) {K:Bool→Zb→Prop}
    (hk:∀ h' T',Wld h' T' wb sp (w.serveR i p.conn lb).2→Zav T T' h h'→K (w.serveR i p.conn lb).1 h'):XO (some ⟨wb,0,none⟩) (some ⟨b,i*3,none⟩) (i:Int) s K h:=by
  unfold XO ZbX
  unfold Cu.serveR at hk
  have hts:=Zru lb
  refine Zix hs fun h3 e3=>?_
  generalize ZdQ lb=rr at hk hts ⊢
  obtain ⟨r,er,ex⟩:=rr
  dsimp only at hk hts ⊢
  refine ZaT fun h4 c4 e4 z4=>?_
  refine ZtF (vs:=rqC r) c4 rfl (by simp only [List.all_cons,List.all_nil,Y4,ZgB];rfl) rfl fun h5 c5 u5 z5=>Za (Za ?_)
  have hlo:sz h≤sz h3:=e3.size
  have hz4:sz h4=sz h3+1:=z4
  have e5:Ext h h5:=(e3.trans e4).then u5 fun k hk=>by rw [hk];exact hlo
  have hW5:=hW.ext e5
  have nb5:T (sz h3)=none:=hW.no hlo
  refine XY (fun he=>?_) (fun he=>?_)
  ·rw [if_pos he] at hk
   exact hk h5 T hW5 ((Zav.refl T h).ext e5)
  rw [if_neg (by rw [he];exact fun h=>h rfl)] at hk
  obtain ⟨nb,sb,sg,pl,hR⟩:=hW5
  have e55:=hR
  obtain ⟨cb,rb,hx⟩:=hR.pe2 hp
  generalize hd:Tk.doV w.srv w.now p.conn r=d at hk
  obtain ⟨⟨a,ea⟩,S'⟩:=d
  dsimp only at hk
  refine Zpc (J:=fun s hh=>∃ T' b',s=(ea,some ⟨b',0,none⟩,())∧(∃ t,obj hh b'=some (.cells (anL a).toArray t (0,0)))∧T' b'=none∧WR hh T' wb nb sb sp sg pl { w with srv:=S' }∧Zav T T' h5 hh) ?_ ?_
  ·rintro _ h36 ⟨T6,b',rfl,⟨ta,ca⟩,nb6,hR6,s6⟩
   dsimp only
   have s56:=Zav.pre e5 s6
   refine XY (fun he=>?_) (fun he=>?_)
   ·rw [if_pos he] at hk
    exact hk h36 T6 ⟨nb,sb,sg,pl,hR6⟩ s56
   rw [if_neg (by rw [he];exact fun h=>h rfl)] at hk
   have c36:=s6.keep c5 nb5
   refine Zpc (J:=fun _ hh=>∃ T' sg',(∃ t,obj hh b'=some (.cells (anL a).toArray t (0,0)))∧WR hh T' wb nb sb sp sg' pl (Cu.noted { w with srv:=S' } i r a)∧Zav T T' h hh) ?_ ?_
   ·rintro _ h63 ⟨T7,sg',⟨ta,ca⟩,hR7,s7⟩
    refine Zg (rI (Zu ca rfl) (rI (Zu ca rfl) (rI (Zu ca rfl) (rI (Zu ca rfl) (rI (Zu ca rfl) ?_)))))
    refine ZoG (r:=a) fun o8 h8 w8 e8=>Za ?_
    refine Zk0 (Own.row w8) fun o9 h9 w9 e9 n9=>Za ?_
    have hR9:=hR7.ext (e8.trans e9)
    unfold Cu.said at hk
    refine Zi (fun c=>?_) (fun c=>?_)
    ·rw [if_pos c] at hk
     have hx9:pl[i]?=some (cb,rb,p):=hx
     refine Zg ?_
     refine Zg (rP (hR9.wc (j:=0) rfl) (rI (hR9.pc hx hb (j:=1) (by decide) rfl) ?_))
     refine St.ZkZ hR9.net (Own.row w9) (Nat.le_trans (Zsw _) (by decide)) (by rw [(Zr1 _ _ _ _).2];exact hn) fun h10 T10 hn10 s10=>?_
     obtain ⟨hR10,s10⟩:=hR9.netS s10 hn10
     rw [YM]
     exact hk h10 _ (hR10.to rfl) ((s7.ext (e8.trans e9)).trans s10)
    ·rw [if_neg c] at hk
     exact hk h9 T7 ⟨nb,sb,sg',pl,hR9⟩ (s7.ext (e8.trans e9))
   ·intro Q hQ
    refine Zg (rI (Zu ca rfl) (Zi (fun c1=>?_) (fun c1=>?_)))
    ·refine rI (Zu c36 rfl) (XY (fun c2=>?_) (fun c2=>?_))
     ·refine Zg ?_
      refine Zg (rL (hR6.wc (j:=5) rfl) (rI (hR6.wc (j:=4) rfl) (rI (Zu c36 rfl) ?_)))
      refine rI (Zu c36 rfl) (rI (Zu c36 rfl) (rI (Zu c36 rfl) (rI (Zu c36 rfl) (rS (Zu c36 rfl) (rI (Zu c36 rfl) ?_)))))
      refine ZaT fun h56 c56 e56 z56=>?_
      have hR56:=hR6.ext e56
      have c36':=Yf c36 e56
      have n36:T6 (sz h3)=none:=s6.none_ nb5 (ZT c5)
      simp only [ZhV,Zbp,Zdj]
      refine ⟨⟨Zu c36' rfl,Zu c36' rfl,Zu c36' rfl,Zu c36' rfl,Zu c36' rfl,Zu c36' rfl,trivial⟩,⟨Zu c36' rfl,trivial⟩,⟨hR56.wc (j:=4) rfl,trivial⟩,⟨hR56.wc (j:=5) rfl,trivial⟩,?_⟩
      have hgl:(w.grs.flatMap gtL).length=sg.len*9:=hR6.grs.len
      rw [Z7 ZgL] at hgl
      refine (Zz8 (n:=9) (l:=gtL (w.now,(i:Int),r.1,r)) c56 rfl).rd ?_
      refine Own.app hR56.grs rfl (by simp only [gtL,List.all_cons,List.all_nil,Y4,ZgB];rfl) rfl (by omega) (by omega) (Nat.zero_le _) fun s' h58 ho58 hl58 u58 hb58=>?_
      have nsg:∀ {k},T6 k=none→¬ sg.blk=some k:=fun {k} hk e=>by rw [hR6.tsg k e] at hk;cases hk
      have c58:=XG c36' u58 (nsg n36)
      have w58:ZN 4 (obj h58 wb)=some (iv w.now):=Zu (XG hR56.cells u58 fun e=>by
        have:=hR56.tsg wb e
        rw [hR56.twb] at this
        cases this) rfl
      refine ⟨⟨Zu c58 rfl,Zu c58 rfl,Zu c58 rfl,Zu c58 rfl,Zu c58 rfl,Zu c58 rfl,trivial⟩,⟨Zu c58 rfl,trivial⟩,⟨w58,trivial⟩,?_⟩
      refine Zg (hR56.grow (g:=(w.now,(i:Int),r.1,r)) (by rw [List.flatMap_append,List.flatMap_cons,List.flatMap_nil,List.append_nil];exact ho58) u58 hb58 fun h61 T61 hR61 s61 k61=>?_)
      have hca:=Yf ca e56
      refine hQ () h61 ⟨T61,s',⟨ta,(k61 b' nb6 (ZT hca)).2.trans hca⟩,?_,s56.trans (Zav.pre e56 s61)⟩
      have:Cu.noted { w with srv:=S' } i r a={ w with srv:=S',grs:=w.grs++[(w.now,(i:Int),r.1,r)]}:=by unfold Cu.noted;rw [if_pos c1,if_neg c2]
      rw [this];exact hR61
     ·refine hQ () h36 ⟨T6,sg,⟨ta,ca⟩,?_,s56⟩
      have:Cu.noted { w with srv:=S' } i r a={ w with srv:=S' }:=by unfold Cu.noted;rw [if_pos c1,if_pos c2]
      rw [this];exact hR6
    ·refine hQ () h36 ⟨T6,sg,⟨ta,ca⟩,?_,s56⟩
     have:Cu.noted { w with srv:=S' } i r a={ w with srv:=S' }:=by unfold Cu.noted;rw [if_neg c1]
     rw [this];exact hR6
  ·intro Q hQ
   refine Zg ?_
   refine Zg ?_
   refine Zg (rP (hR.wc (j:=1) rfl) (rI (hR.wc (j:=4) rfl) (rI (hR.pc hx hb (j:=1) (by decide) rfl) ?_)))
   refine rI (Zu c5 rfl) (rI (Zu c5 rfl) (rI (Zu c5 rfl) (rI (Zu c5 rfl) (rS (Zu c5 rfl) (rI (Zu c5 rfl) ?_)))))
   rw [ZlR]
   refine ⟨?_,?_⟩
   ·refine Tk.Ztc (r:=r) hR.srv hok hts fun h23 T23 hn23 s23=>ZaT fun h25 c25 e25 z25=>?_
    have hd1:Tk.doV w.srv w.now (cb,rb,p).2.2.conn r=((a,ea),S'):=hd
    rw [hd1] at hn23 ⊢
    obtain ⟨hR23,s23⟩:=hR.srvS s23 hn23
    refine ZtF (vs:=anL a) c25 rfl (by simp only [anL,List.all_cons,List.all_nil,Y4];rfl) rfl fun h26 c26 u26 z26=>Za ?_
    have n23:cmb 2 T T23 (sz h23)=none:=hR23.no (Nat.le_refl _)
    refine hQ _ _ ⟨_,sz h23,rfl,⟨_,c26⟩,n23,?_,(s23.ext e25).also u26 fun k hk=>?_⟩
    ·exact (hR23.ext e25).congr (by rw [z26];exact Nat.le_refl _) fun j hj=>u26.old j (Nat.lt_of_lt_of_le (hR23.lt j hj) e25.size) fun e=>hj (by rw [e];exact n23)
    ·rw [hk];exact s23.upd.size
   ·refine ZaT fun h29 c29 e29 z29=>?_
    have hR29:=hR.ext e29
    have n29:T (sz h5)=none:=hR.no (Nat.le_refl _)
    have c5':=Yf c5 e29
    simp only [ZhV,Zbp,Zdj]
    refine ⟨⟨Zu c5' rfl,Zu c5' rfl,Zu c5' rfl,Zu c5' rfl,Zu c5' rfl,Zu c5' rfl,trivial⟩,⟨hR29.pc hx hb (j:=1) (by decide) rfl,trivial⟩,⟨hR29.wc (j:=4) rfl,trivial⟩,⟨hR29.wc (j:=1) rfl,trivial⟩,?_⟩
    refine Tk.Ztc (r:=r) hR29.srv hok hts fun h32 T32 hn32 s32=>?_
    have hd1:Tk.doV w.srv w.now (cb,rb,p).2.2.conn r=((a,ea),S'):=hd
    rw [hd1] at hn32 ⊢
    obtain ⟨hR32,s32⟩:=hR29.srvS s32 hn32
    have c32:=s32.keep c29 n29
    have n32:=s32.none_ n29 (ZT c29)
    refine ZtF (vs:=anL a) c32 rfl (by simp only [anL,List.all_cons,List.all_nil,Y4];rfl) rfl fun h33 c33 u33 z33=>Za ?_
    refine hQ _ _ ⟨_,sz h5,rfl,⟨_,c33⟩,n32,?_,(Zav.pre e29 s32).also u33 fun k hk=>?_⟩
    ·exact hR32.congr (by rw [z33];exact Nat.le_refl _) fun j hj=>u33.old j (hR32.lt j hj) fun e=>hj (by rw [e];exact n32)
    ·rw [hk];exact Nat.le_refl _
end
def Zg1 (cs:List St.Cn):Prop:=∀ c j,c∈cs→j<2→(c.side j).way.length≤65536∧(c.side j).come=[]
theorem Zvp {cs:List St.Cn} {k e m:Int} (he:e=0∨e=1) (hm:0≤m):St.Zg3 cs k e m=St.Zg3 cs k 0 0:=by
  unfold St.Zg3
  rw [if_neg (show ¬ e<0 by omega),if_neg (show ¬ e>1 by omega),if_neg (show ¬ m<0 by omega),if_neg (show ¬ (0:Int)<0 by omega),if_neg (show ¬ (0:Int)>1 by omega),if_neg (show ¬ (0:Int)<0 by omega)]
theorem ZsE {cs:List St.Cn} {k:Int} (h:St.Zg3 cs k 0 0=0):1≤k∧∃ c,cs[(k - 1).toNat]?=some c∧c.brk=false:=by
  unfold St.Zg3 at h
  split at h
  ·cases h
  ·split at h
   ·cases h
   ·rename_i h1 h2
    rw [if_neg (show ¬ (0:Int)<0 by omega),if_neg (show ¬ (0:Int)>1 by omega),if_neg (show ¬ (0:Int)<0 by omega)] at h
    have hl:(k - 1).toNat<cs.length:=by omega
    rw [List.getElem?_eq_getElem hl] at h ⊢
    refine ⟨by omega,_,rfl,?_⟩
    cases hb:cs[(k - 1).toNat].brk with
    | false=>rfl
    | true=>dsimp only at h;rw [hb,if_pos rfl] at h;cases h
theorem ZwX {cs:List St.Cn} {k:Int} (h0:1≤k) {c:St.Cn} (hc:cs[(k - 1).toNat]?=some c) (hb:c.brk=false):St.Zg3 cs k 0 0=0:=by
  have hl:=Za3 hc
  unfold St.Zg3
  rw [if_neg (by omega),if_neg (by omega),if_neg (show ¬ (0:Int)<0 by omega),if_neg (show ¬ (0:Int)>1 by omega),if_neg (show ¬ (0:Int)<0 by omega),hc]
  dsimp only
  rw [hb]
  rfl
theorem ZiM {α:Type} {l:List α} {i:Nat} {a b:α} (h:b∈l.set i a):b=a∨b∈l:=by
  rcases List.mem_or_eq_of_mem_set h with h1 | h1
  ·exact .inr h1
  ·exact .inl h1
theorem Zpe {j k:Nat} {T:TT} {S:Nat→Option Nat} (h1:S k=none) (h2:T k=none):cmb j T S k=none:=by unfold cmb;rw [h1,h2]
abbrev MX:Int:=9223372036854775807
def Cu.moved (w:Cu) (conn:Int) (j:Nat) (most:Int):List UInt8 × List St.Cn :=
  ((St.Zth (St.mvS w.cs conn j most).2 conn (1 - (j:Int)) MX).1.1,(St.Zth (St.mvS w.cs conn j most).2 conn (1 - (j:Int)) MX).2)
theorem Zhi {w:Cu} (hN:Zg1 w.cs) {conn:Int} {j:Nat} (hj:j<2) {most:Int} (hm:0≤most) :
    (∀ c j',c∈(St.mvS w.cs conn j most).2→j'<2→(c.side j').way.length≤65536∧(c.side j').come.length≤65536)∧Zg1 (w.moved conn j most).2∧(w.moved conn j most).1.length≤65536:=by
  have e1:St.Zg3 w.cs conn (j:Int) most=St.Zg3 w.cs conn 0 0:=Zvp (by omega) hm
  have e2:∀ cs,St.Zg3 cs conn (1 - (j:Int)) MX=St.Zg3 cs conn 0 0:=fun cs=>Zvp (by omega) (by decide)
  unfold Cu.moved St.Zth
  rw [e2]
  by_cases h0:St.Zg3 w.cs conn 0 0=0
  ·obtain ⟨hk,c,hc,hb⟩:=ZsE h0
   have hmv:(St.mvS w.cs conn j most).2=w.cs.set (conn - 1).toNat (c.putS j ⟨(c.side j).way.drop (min most.toNat (c.side j).way.length),(c.side j).come++(c.side j).way.take (min most.toNat (c.side j).way.length),(c.side j).x⟩):=by
     unfold St.mvS
     rw [e1,h0,if_neg (fun h=>h rfl)]
     unfold St.mvI
     rw [Int.toNat_natCast,hc]
   rw [hmv]
   have hcm:=List.mem_of_getElem? hc
   obtain ⟨hw,hcome⟩:=hN c j hcm hj
   generalize hc2:c.putS j ⟨(c.side j).way.drop (min most.toNat (c.side j).way.length),(c.side j).come++(c.side j).way.take (min most.toNat (c.side j).way.length),(c.side j).x⟩=c2
   have hs2:∀ i,i<2→c2.side i=if i=j then ⟨(c.side j).way.drop (min most.toNat (c.side j).way.length),(c.side j).come++(c.side j).way.take (min most.toNat (c.side j).way.length),(c.side j).x⟩ else c.side i:=fun i hi=>by rw [← hc2];exact St.Zlh c hj hi _
   have hb2:c2.brk=false:=by rw [← hc2,St.Zw4,hb]
   have hc2':(w.cs.set (conn - 1).toNat c2)[(conn - 1).toNat]?=some c2:=List.getElem?_set_self (Za3 hc)
   have hside:(c2.side j).way.length≤65536∧(c2.side j).come.length≤65536:=by
     rw [hs2 j hj,if_pos rfl]
     dsimp only
     rw [hcome,List.nil_append,List.length_drop,List.length_take]
     omega
   refine ⟨fun a j' ha hj'=>?_,?_⟩
   ·rcases ZiM ha with rfl | ha
    ·by_cases e:j'=j
     ·subst e;exact hside
     ·rw [hs2 j' hj',if_neg e]
      obtain ⟨h1,h2⟩:=hN c j' hcm hj'
      exact ⟨h1,by rw [h2];exact Nat.zero_le _⟩
    ·obtain ⟨h1,h2⟩:=hN a j' ha hj'
     exact ⟨h1,by rw [h2];exact Nat.zero_le _⟩
   ·rw [ZwX hk hc2' hb2,if_neg (fun h=>h rfl)]
    have ej:1 - (1 - (j:Int)).toNat=j:=by omega
    rw [ej]
    unfold St.rdI
    rw [hc2']
    dsimp only
    have em:min MX.toNat (c2.side j).come.length=(c2.side j).come.length:=by
      have:MX.toNat=9223372036854775807:=rfl
      omega
    rw [em,List.take_length,List.drop_length,List.set_set]
    refine ⟨fun a j' ha hj'=>?_,hside.2⟩
    rcases ZiM ha with rfl | ha
    ·rw [St.Zlh c2 hj hj']
     split
     ·exact ⟨hside.1,rfl⟩
     ·rename_i e
      rw [hs2 j' hj',if_neg e]
      exact hN c j' hcm hj'
    ·exact hN a j' ha hj'
  ·have hmv:(St.mvS w.cs conn j most).2=w.cs:=by
     unfold St.mvS
     rw [e1,if_pos h0]
   rw [hmv,if_pos h0]
   exact ⟨fun a j' ha hj'=>by
     obtain ⟨h1,h2⟩:=hN a j' ha hj'
     exact ⟨h1,by rw [h2];exact Nat.zero_le _⟩,hN,Nat.zero_le _⟩
def Cu.mvE (w:Cu) (p:Pe) (most:Int):Int:=if p.cl.up=false then 51 else if p.conn=0 then 51 else if most<0 then 2 else 0
section
variable {h h':Zb} {T:TT} {wb:Nat} {sp:Sl} {w:Cu}
theorem ZkB (hW:Wld h T wb sp w) (hN:Zg1 w.cs) {i:Nat} {p:Pe} (hp:w.pes[i]?=some p) {b:Nat} (hb:sp.blk=some b) {j:Nat} (hj:j<2) {most:Int} {K:Sl→Int→Zb→Prop}
    (hk1:w.mvE p most≠0→K ⟨none,0,0⟩ (w.mvE p most) h)
    (hk2:w.mvE p most=0→∀ out h' T',Wld h' T' wb sp { w with cs:=(w.moved p.conn j most).2 }→Zav T T' h h'→Bytes h' out (w.moved p.conn j most).1→(∀ k,out.blk=some k→T' k=none∧sz h≤k∧k<sz h')→K out 0 h') :
    YP (some ⟨wb,0,none⟩) (some ⟨b,i*3,none⟩) (j:Int) most K h:=by
  obtain ⟨nb,sb,sg,pl,hR⟩:=hW
  obtain ⟨cb,rb,hx⟩:=hR.pe2 hp
  unfold YP ZbZ
  unfold Cu.mvE at hk1 hk2
  refine Za (Zg (rP (hR.pc hx hb (j:=0) (by decide) rfl) ?_))
  have hC:=hR.cls i _ hx
  refine ZcK hC ⟨fun cu=>Za ?_,fun cu=>Zg (rI (hR.pc hx hb (j:=1) (by decide) rfl) ?_)⟩
  ·have cu:p.cl.up=false:=by simpa using cu
   rw [if_pos cu] at hk1
   exact hk1 (by decide)
  have cu:¬ p.cl.up=false:=fun e=>by rw [show p.cl.up=true by simpa using cu] at e;cases e
  rw [if_neg cu] at hk1 hk2
  rw [YM]
  refine Zi (fun c=>Za ?_) (fun c=>?_)
  ·have c:p.conn=0:=c
   rw [if_pos c] at hk1
   exact hk1 (by decide)
  have c:¬ p.conn=0:=c
  rw [if_neg c] at hk1 hk2
  rw [YM]
  refine Zi (fun c=>Za ?_) (fun c=>?_)
  ·rw [if_pos c] at hk1
   exact hk1 (by decide)
  rw [if_neg c] at hk2
  obtain ⟨m1,m2,m3⟩:=Zhi hN (conn:=p.conn) hj (most:=most) (by omega)
  refine Zg ?_
  refine Zg (rP (hR.wc (j:=0) rfl) (rI (hR.pc hx hb (j:=1) (by decide) rfl) ?_))
  refine St.Zs7 hR.net (fun a j' ha hj'=>?_) fun h1 T1 hn1 s1=>?_
  ·obtain ⟨q1,q2⟩:=hN a j' ha hj'
   exact ⟨q1,by rw [q2];exact Nat.zero_le _⟩
  obtain ⟨hR1,s1⟩:=hR.netS s1 hn1
  refine Zg ?_
  refine Zg (rP (hR1.wc (j:=0) rfl) (rI (hR1.pc hx hb (j:=1) (by decide) rfl) ?_))
  rw [ZR (n:=1 - (j:Int)) (by omega) (by omega)]
  refine St.Zs4 hR1.net (fun a j' ha hj'=>?_) fun out h2 T2 hn2 s2 o2 n2=>?_
  ·obtain ⟨q1,q2⟩:=m1 a j' ha hj'
   exact ⟨q1,by omega⟩
  obtain ⟨hR2,s2⟩:=hR1.netS s2 hn2
  rw [YM]
  refine Za (Za ?_)
  refine hk2 rfl out h2 _ (hR2.to rfl) (s1.trans s2) (Own.row o2) fun k hk=>?_
  have hlt:=o2.lt hk
  have hlo:sz h1≤k:=hlt.1
  have n1:cmb 1 T T1 k=none:=hR1.no hlo
  refine ⟨?_,Nat.le_trans s1.upd.size hlo,hlt.2⟩
  exact Zpe (n2 k hk) n1
end
end Go.Proofs.YtbppjmcinoffnaaGreat
namespace Go.Proofs.YtbppjmcinoffnaaGreat.Tk
open Go Go.Fw
open Nat (reduceAdd reduceLT reduceLeDiff reduceEqDiff reduceMul)
def Srv.at (S:Srv) (t:Int):Srv:={ S with last:=t }
def Shr (S:Srv) (at_:Int) (o:List F4):Prop:=o=S.out∨o=Xw at_ S.out∨∃ i,o=(Xw at_ S.out).eraseIdx i
theorem Zsq (S:Srv) (at_:Int) (ns:ByteArray) (n:Int):Shr S at_ (ZgM S at_ ns n).2∧(ZgM S at_ ns n).1≠1:=by
  unfold ZgM
  split
  ·exact ⟨.inl rfl,show (4:Int)≠1 by decide⟩
  ·split
   ·exact ⟨.inr (.inr ⟨_,rfl⟩),show (8:Int)≠1 by decide⟩
   ·exact ⟨.inl rfl,show (4:Int)≠1 by decide⟩
structure ZzJ (S:Srv) (at_:Int) (r:Rq) (st:Int) (S':Srv):Prop where
  nope:st≠1∨r.2.1=5
  bad:Xj r=false→st=5
  is:∃ o cs,Shr S at_ o∧S'={ S with last:=at_,out:=o,conns:=cs }
structure Grant (S:Srv) (at_:Int) (ns:ByteArray) (r:Rq) (f:F4) (st:Int) (S':Srv):Prop where
  right:Xj r=true
  one:st=1
  want:r.2.1≠5
  flow:Ze6 S.spaces ns r.2.2.1=some f
  kind:f.2.2.1=r.2.1
  quiet:Zhb S at_ f=false
  over:Zkc (ZfN S at_ f r.2.2.2.2.1) f r=false
  is:(f.2.2.1≠3∧S'=(S.at at_).take at_ f r)∨(f.2.2.1=3∧(Xw at_ S.out).length<1024∧S'=(S.at at_).lease at_ f r)
theorem Zqf (S:Srv) (at_ conn:Int) (ns:ByteArray) (r:Rq):ZzJ S at_ r (ZlV (S.at at_) at_ conn ns r).1.2.1 (ZlV (S.at at_) at_ conn ns r).2∨∃ f,Grant S at_ ns r f (ZlV (S.at at_) at_ conn ns r).1.2.1 (ZlV (S.at at_) at_ conn ns r).2:=by
  unfold ZlV
  split
  ·exact .inl ⟨.inl (by show (5:Int)≠1;decide),fun _=>rfl,_,_,.inl rfl,rfl⟩
  rename_i hr
  have hr':Xj r=true:=by simpa using hr
  have hbad:∀ {n:Int},Xj r=false→n=5:=fun h=>by rw [hr'] at h;cases h
  split
  ·rename_i h5
   split
   ·exact .inl ⟨.inr h5,hbad,_,_,.inl rfl,rfl⟩
   ·exact .inl ⟨.inr h5,hbad,_,_,.inl rfl,rfl⟩
  rename_i h5
  split
  ·exact .inl ⟨.inl (by show (4:Int)≠1;decide),hbad,_,_,.inl rfl,rfl⟩
  split
  ·obtain ⟨g1,g2⟩:=Zsq (S.at at_) at_ ns r.2.2.2.2.2.1
   exact .inl ⟨.inl g2,hbad,_,_,g1,rfl⟩
  unfold ZnI
  split
  ·exact .inl ⟨.inl (by show (4:Int)≠1;decide),hbad,_,_,.inl rfl,rfl⟩
  rename_i f hf
  split
  ·exact .inl ⟨.inl (by show (4:Int)≠1;decide),hbad,_,_,.inl rfl,rfl⟩
  rename_i hk
  split
  ·exact .inl ⟨.inl (by show (7:Int)≠1;decide),hbad,_,_,.inl rfl,rfl⟩
  rename_i hq
  have hk':f.2.2.1=r.2.1:=by simpa using hk
  have hq':Zhb S at_ f=false:=by
    have:Zhb (S.at at_) at_ f=false:=by simpa using hq
    exact this
  unfold Zjz
  split
  ·exact .inl ⟨.inl (by show (2:Int)≠1;decide),hbad,_,_,.inl rfl,rfl⟩
  rename_i ho
  have ho':Zkc (ZfN S at_ f r.2.2.2.2.1) f r=false:=by
    have:Zkc (ZfN (S.at at_) at_ f r.2.2.2.2.1) f r=false:=by simpa using ho
    exact this
  split
  ·rename_i h3
   exact .inr ⟨f,hr',rfl,h5,hf,hk',hq',ho',.inl ⟨h3,rfl⟩⟩
  rename_i h3
  have h3':f.2.2.1=3:=by simpa using h3
  split
  ·exact .inl ⟨.inl (by show (6:Int)≠1;decide),hbad,_,_,.inr (.inl rfl),rfl⟩
  ·rename_i hl
   exact .inr ⟨f,hr',rfl,h5,hf,hk',hq',ho',.inr ⟨h3',by have:¬ (Xw at_ S.out).length≥1024:=hl;omega,rfl⟩⟩
theorem Zhs (S:Srv) (at_ conn:Int) (r:Rq) :
    ((doV S at_ conn r).1.2≠0∧(doV S at_ conn r).2=S) ∨
    ((doV S at_ conn r).1.2=0∧Zaw S.last at_=0∧(doV S at_ conn r).1.1.1=r.1∧(ZzJ S at_ r (doV S at_ conn r).1.1.2.1 (doV S at_ conn r).2∨∃ ns f,S.conns conn=some ns∧Grant S at_ ns r f (doV S at_ conn r).1.1.2.1 (doV S at_ conn r).2)):=by
  rcases Decidable.em (Zaw S.last at_=0) with q | q
  case inr=>rw [Zpb q];exact .inl ⟨q,rfl⟩
  cases hc:S.conns conn with
  | none=>rw [Zpa (fun h=>h q) hc];exact .inl ⟨by show (4:Int)≠0;decide,rfl⟩
  | some ns =>
    rw [Zo9 (fun h=>h q) hc rfl]
    refine .inr ⟨rfl,q,rfl,?_⟩
    rcases Zqf S at_ conn ns r with h | ⟨f,h⟩
    ·exact .inl h
    ·exact .inr ⟨ns,f,rfl,h⟩
theorem Zhl {last at_:Int} (h:Zaw last at_=0):0≤at_∧at_≤1152921504606846976∧last≤at_:=by
  unfold Zaw at h
  split at h
  ·split at h
   ·cases h
   ·omega
  ·cases h
theorem Zsz {r:Rq} (h:ZjD r=true):1≤r.2.2.2.1∧r.2.2.2.1≤1099511627776:=by
  unfold ZjD at h
  simp only [Bool.and_eq_true] at h
  have:=h.2
  unfold inB at this
  simp only [Bool.and_eq_true,decide_eq_true_eq] at this
  omega
theorem Zi9 {r:Rq} (h:Xj r=true) (hw:r.2.1=1∨r.2.1=2∨r.2.1=3):1≤r.2.2.2.1∧r.2.2.2.1≤1099511627776:=by
  refine Zsz ?_
  unfold Xj at h
  rcases hw with e | e | e<;>simp [e] at h<;>simp [h]
def ZdR (t:Int) (l:List (Int × Int)):Int:=((l.filter fun x=>decide (t - x.1<900000)).map (·.2)).sum
def Zti (i:Int) (l:List (Int × Int)):Int:=((l.filter fun x=>decide (bkt x.1=i)).map (·.2)).sum
def ZlC (i:Int) (l:List (Int × Int)):Int:=((l.filter fun x=>decide (i≤bkt x.1)).map (·.2)).sum
theorem ZhF:∀ {l:List Int},(∀ x,x∈l→0≤x)→0≤l.sum
  | [],_=>by simp
  | x::l,h=>by
    rw [List.sum_cons]
    have:=h x (List.mem_cons_self ..)
    have:=ZhF (l:=l) fun y hy=>h y (List.mem_cons_of_mem _ hy)
    omega
theorem ZlE {p q:(Int × Int)→Bool}:∀ {l:List (Int × Int)},(∀ x,x∈l→0≤x.2)→(∀ x,x∈l→p x=true→q x=true)→((l.filter p).map (·.2)).sum≤((l.filter q).map (·.2)).sum
  | [],_,_=>by simp
  | x::l,h,hpq=>by
    have ih:=ZlE (p:=p) (q:=q) (l:=l) (fun y hy=>h y (List.mem_cons_of_mem _ hy)) fun y hy=>hpq y (List.mem_cons_of_mem _ hy)
    have hx:=h x (List.mem_cons_self ..)
    have hpx:=hpq x (List.mem_cons_self ..)
    rw [List.filter_cons,List.filter_cons]
    cases hp:p x with
    | true=>rw [hpx hp];simp only [if_true,List.map_cons,List.sum_cons];omega
    | false =>
      cases hq:q x with
      | true=>simp only [if_true,Bool.false_eq_true,if_false,List.map_cons,List.sum_cons];omega
      | false=>simpa using ih
theorem Zna {p:(Int × Int)→Bool}:∀ {l:List (Int × Int)},(∀ x,x∈l→p x=false)→((l.filter p).map (·.2)).sum=0:=fun {l} h=>by
  have:l.filter p=[]:=List.filter_eq_nil_iff.2 fun x hx=>by rw [h x hx];decide
  rw [this];rfl
theorem Zgd (t:Int) (a b:List (Int × Int)):ZdR t (a++b)=ZdR t a+ZdR t b:=by unfold ZdR;rw [List.filter_append,List.map_append,List.sum_append]
theorem Zw6 (i:Int) (a b:List (Int × Int)):Zti i (a++b)=Zti i a+Zti i b:=by unfold Zti;rw [List.filter_append,List.map_append,List.sum_append]
theorem Zw5 (i a n:Int):Zti i [(a,n)]=if i=bkt a then n else 0:=by
  unfold Zti
  by_cases h:bkt a=i
  ·rw [if_pos h.symm];simp [h]
  ·rw [if_neg (fun e=>h e.symm)];simp [h]
theorem ZoY (t a n:Int) (h:t - a<900000):ZdR t [(a,n)]=n:=by unfold ZdR;simp [h]
theorem Zm1 (i:Int):∀ (l:List (Int × Int)),ZlC i l=Zti i l+ZlC (i+1) l
  | []=>rfl
  | x::l=>by
    have ih:=Zm1 i l
    unfold ZlC Zti at *
    simp only [List.filter_cons]
    rcases Int.lt_trichotomy (bkt x.1) i with h | h | h
    ·simp only [show ¬ i≤bkt x.1 from by omega,show ¬ bkt x.1=i from by omega,show ¬ i+1≤bkt x.1 from by omega,decide_false,Bool.false_eq_true,if_false]
     exact ih
    ·simp only [show i≤bkt x.1 from by omega,show bkt x.1=i from h,show ¬ i+1≤i from by omega,decide_true,decide_false,if_true,Bool.false_eq_true,if_false,List.map_cons,List.sum_cons,Int.le_refl]
     omega
    ·simp only [show i≤bkt x.1 from by omega,show ¬ bkt x.1=i from by omega,show i+1≤bkt x.1 from by omega,decide_true,decide_false,if_true,Bool.false_eq_true,if_false,List.map_cons,List.sum_cons]
     omega
theorem Zi1 {p:Int→Int} {c:Int} (hc:0≤c∧c≤1099511627776) (hp:∀ i,0≤p i∧p i≤c) (lo:Int):∀ (n:Nat),n≤100→ZfJ p lo (lo+((n+1:Nat):Int))=ZfJ p lo (lo+n)+p (lo+n)∧0≤ZfJ p lo (lo+n)∧ZfJ p lo (lo+n)≤n*c
  | 0,_=>by
    have e:ZfJ p lo (lo+((0:Nat):Int))=0:=by rw [show lo+((0:Nat):Int)=lo from by omega];exact ZiB p lo
    have h0:=hp lo
    refine ⟨?_,by rw [e];omega,by rw [e];omega⟩
    rw [show lo+((0+1:Nat):Int)=lo+((0:Nat):Int)+1 from by omega,ZeW p (by omega),e,Zfk (by omega) (by have:=hp (lo+((0:Nat):Int));omega)]
    have:=hp (lo+((0:Nat):Int))
    omega
  | n+1,hn=>by
    obtain ⟨h1,h2,h3⟩:=Zi1 hc hp lo n (by omega)
    have hpn:=hp (lo+n)
    have hpm:=hp (lo+((n+1:Nat):Int))
    have hb:((n+1:Nat):Int)*c=n*c+c:=by rw [Int.natCast_add,Int.add_mul];omega
    have hn2:(n:Int)*c≤100*c:=Int.mul_le_mul_of_nonneg_right (by omega) hc.1
    refine ⟨?_,by rw [h1];omega,by rw [h1,hb];omega⟩
    rw [show lo+((n+1+1:Nat):Int)=lo+((n+1:Nat):Int)+1 from by omega,ZeW p (by omega),Zfk (by rw [h1];omega) (by omega)]
    omega
theorem Zrx {w:Win} {l:List (Int × Int)} {c:Int} (hc:0≤c∧c≤1099511627776) (hp:∀ i,0≤w.p i∧w.p i≤c) (hw:∀ i,w.p i=Zti i l) {at_:Int} (h0:0≤at_) (hl:∀ x,x∈l→x.1≤at_):w.sum at_=ZlC (loW at_) l:=by
  have key:∀ (n:Nat),n≤100→ZfJ w.p (loW at_) (loW at_+n)+ZlC (loW at_+n) l=ZlC (loW at_) l:=fun n=>by
    induction n with
    | zero=>intro _;rw [show loW at_+((0:Nat):Int)=loW at_ from by omega,ZiB];omega
    | succ n ih =>
      intro hn
      have:=ih (by omega)
      rw [(Zi1 hc hp (loW at_) n (by omega)).1,show loW at_+((n+1:Nat):Int)=loW at_+n+1 from by omega,hw]
      have:=Zm1 (loW at_+n) l
      omega
  have hb:0≤bkt at_:=by unfold bkt;omega
  have hlo:loW at_≤bkt at_∧bkt at_ - 9≤loW at_:=by unfold loW;omega
  have:=key (bkt at_+1 - loW at_).toNat (by omega)
  rw [show loW at_+(((bkt at_+1 - loW at_).toNat:Nat):Int)=bkt at_+1 from by omega] at this
  have hz:ZlC (bkt at_+1) l=0:=Zna fun x hx=>by
    have:=ZlS (hl x hx)
    exact decide_eq_false (by omega)
  unfold Win.sum
  omega
theorem ZmF {l:List (Int × Int)} {at_:Int} (hl:∀ x,x∈l→0≤x.1∧0≤x.2):ZdR at_ l≤ZlC (loW at_) l:=by
  refine ZlE (fun x hx=>(hl x hx).2) fun x hx h=>?_
  have:=(hl x hx).1
  simp only [decide_eq_true_eq] at h ⊢
  unfold loW bkt
  omega
end Go.Proofs.YtbppjmcinoffnaaGreat.Tk
namespace Go.Proofs.YtbppjmcinoffnaaGreat
open Go Go.Fw
open Nat (reduceAdd reduceLT reduceLeDiff reduceEqDiff reduceMul)
open Tk (Zu rI rB rS rP rM rL Ziv XV held1 ZaQ wrS)
structure SOK (S:Tk.Srv):Prop where
  out:S.out.length≤1024
  cnt:∀ x,x∈S.spaces→∀ f,f∈x.2→∃ c,S.counts f.1=some c∧c.kind=f.2.2.1
theorem SOK.ok {S:Tk.Srv} (h:SOK S):S.OK:=⟨by have:=h.out;omega,h.cnt⟩
theorem Zwr {S:Tk.Srv} {at_:Int} {o:List Tk.F4} (h:Tk.Shr S at_ o):o.length≤S.out.length:=by
  rcases h with rfl | rfl | ⟨i,rfl⟩
  ·exact Nat.le_refl _
  ·exact List.length_filter_le _ _
  ·exact Nat.le_trans (List.eraseIdx_sublist _ _).length_le (List.length_filter_le _ _)
theorem SOK.do {S:Tk.Srv} (h:SOK S) (at_ conn:Int) (r:Rq):SOK (Tk.doV S at_ conn r).2:=by
  rcases Tk.Zhs S at_ conn r with ⟨_,e⟩ | ⟨_,_,_,hS | ⟨ns,f,hc,hG⟩⟩
  ·rw [e];exact h
  ·obtain ⟨o,cs,ho,e⟩:=hS.is
   rw [e]
   exact ⟨Nat.le_trans (Zwr ho) h.out,h.cnt⟩
  ·rcases hG.is with ⟨_,e⟩ | ⟨_,hl,e⟩
   ·rw [e]
    refine ⟨h.out,fun x hx g hg=>?_⟩
    obtain ⟨c,h1,h2⟩:=h.cnt x hx g hg
    show ∃ c,(if g.1=f.1 then (S.counts f.1).map _ else S.counts g.1)=some c∧_
    split
    ·rename_i e2
     rw [e2] at h1
     rw [h1]
     exact ⟨_,rfl,by rw [Tk.Cnt.took_kind];exact h2⟩
    ·exact ⟨c,h1,h2⟩
   ·rw [e]
    refine ⟨?_,h.cnt⟩
    show (Tk.Xw at_ S.out++[_]).length≤1024
    rw [List.length_append,List.length_singleton]
    omega
theorem SOK.opened {S:Tk.Srv} (h:SOK S) (conn:Int):SOK (S.opened conn):=by
  unfold Tk.Srv.opened
  split
  ·exact ⟨h.out,h.cnt⟩
  ·exact h
theorem SOK.closed {S:Tk.Srv} (h:SOK S) (conn:Int):SOK (S.closed conn):=by
  unfold Tk.Srv.closed
  split
  ·exact ⟨h.out,h.cnt⟩
  ·exact h
theorem SOK.restarted {S:Tk.Srv} (h:SOK S) (at_:Int):SOK (S.restarted at_):=by
  refine ⟨Nat.zero_le _,fun x hx f hf=>?_⟩
  obtain ⟨c,h1,h2⟩:=h.cnt x hx f hf
  show ∃ c,(S.counts f.1).map _=some c∧_
  rw [h1]
  exact ⟨_,rfl,by rw [Tk.Zet f.1 (Tk.Zh1 c)];exact h2⟩
theorem Zu5 {cs:List St.Cn} (hN:Zg1 cs) (k:Int) {j:Nat} (hj:j<2) (l:List UInt8):Zg1 (St.wrS cs k j l).2:=by
  unfold St.wrS
  split
  ·exact hN
  ·unfold St.wrI
   rw [Int.toNat_natCast]
   split
   ·exact hN
   ·rename_i c hc
    split
    ·exact hN
    ·split
     ·exact hN
     ·rename_i h1 h2
      intro a j' ha hj'
      rcases ZiM ha with rfl | ha
      ·rw [St.Zlh c hj hj']
       split
       ·obtain ⟨q1,q2⟩:=hN c j (List.mem_of_getElem? hc) hj
        refine ⟨?_,q2⟩
        show ((c.side j).way++l).length≤65536
        rw [List.length_append]
        omega
       ·exact hN c j' (List.mem_of_getElem? hc) hj'
      ·exact hN a j' ha hj'
theorem ZsT {cs:List St.Cn} (hN:Zg1 cs) (l:List Int):Zg1 (St.brS cs l).2:=by
  have h1:∀ (l:List Int) (cs:List St.Cn),Zg1 cs→Zg1 (St.brA cs l):=by
    intro l
    induction l with
    | nil=>exact fun cs h=>h
    | cons k r ih =>
      intro cs h
      refine ih _ ?_
      split
      ·rename_i c hc
       intro a j ha hj
       rcases ZiM ha with rfl | ha
       ·rcases St.two j hj with rfl | rfl<;>exact ⟨Nat.zero_le _,rfl⟩
       ·exact h a j ha hj
      ·exact h
  unfold St.brS
  split
  ·exact hN
  ·exact hN
  ·exact h1 l cs hN
theorem ZsI {ps:Int→Bool} {cs:List St.Cn} (hN:Zg1 cs) (port:Int):Zg1 (St.diS ps cs port).2:=by
  unfold St.diS
  split
  ·exact hN
  ·split
   ·exact hN
   ·split
    ·exact hN
    ·intro a j ha hj
     rcases List.mem_append.1 ha with ha | ha
     ·exact hN a j ha hj
     ·have:a=St.Zn5 port:=by simpa using ha
      subst this
      rcases St.two j hj with rfl | rfl<;>exact ⟨Nat.zero_le _,rfl⟩
structure SI (w:Cu) (n:Nat):Prop where
  net:Zg1 w.cs
  srv:SOK w.srv
  grs:w.grs.length≤n
theorem SI.serve {w:Cu} {n:Nat} (h:SI w n) (i:Nat) (conn:Int) (lb:List UInt8):SI (w.serveR i conn lb).2 (n+1)∧(w.serveR i conn lb).2.pes=w.pes∧(w.serveR i conn lb).2.now=w.now∧(w.serveR i conn lb).2.cs.length=w.cs.length:=by
  unfold Cu.serveR
  have hS:=h.srv.do w.now conn (ZdQ lb).1
  generalize Tk.doV w.srv w.now conn (ZdQ lb).1=d at hS ⊢
  split
  ·exact ⟨⟨h.net,h.srv,Nat.le_succ_of_le h.grs⟩,rfl,rfl,rfl⟩
  ·split
   ·exact ⟨⟨h.net,hS,Nat.le_succ_of_le h.grs⟩,rfl,rfl,rfl⟩
   ·have hn:SI (Cu.noted { w with srv:=d.2 } i (ZdQ lb).1 d.1.1) (n+1)∧(Cu.noted { w with srv:=d.2 } i (ZdQ lb).1 d.1.1).pes=w.pes∧(Cu.noted { w with srv:=d.2 } i (ZdQ lb).1 d.1.1).now=w.now∧(Cu.noted { w with srv:=d.2 } i (ZdQ lb).1 d.1.1).cs=w.cs:=by
      unfold Cu.noted
      split
      ·split
       ·exact ⟨⟨h.net,hS,Nat.le_succ_of_le h.grs⟩,rfl,rfl,rfl⟩
       ·refine ⟨⟨h.net,hS,?_⟩,rfl,rfl,rfl⟩
        have:=h.grs
        show (w.grs++[_]).length≤n+1
        rw [List.length_append,List.length_singleton]
        omega
      ·exact ⟨⟨h.net,hS,Nat.le_succ_of_le h.grs⟩,rfl,rfl,rfl⟩
    obtain ⟨n1,n2,n3,n4⟩:=hn
    generalize Cu.noted { w with srv:=d.2 } i (ZdQ lb).1 d.1.1=w2 at n1 n2 n3 n4 ⊢
    unfold Cu.said
    split
    ·refine ⟨⟨Zu5 (j:=1) n1.net conn (by decide) _,n1.srv,n1.grs⟩,n2,n3,?_⟩
     show (St.wrS w2.cs conn 1 _).2.length=_
     rw [← n4]
     unfold St.wrS
     split
     ·rfl
     ·unfold St.wrI
      split
      ·rfl
      ·split
       ·rfl
       ·split
        ·rfl
        ·exact List.length_set
    ·exact ⟨n1,n2,n3,by rw [n4]⟩
def Cu.serveL (w:Cu) (i:Nat) (conn:Int):List (List UInt8)→Bool × Cu
  | []=>(true,w)
  | x::r=>if (w.serveR i conn x).1=true then Cu.serveL (w.serveR i conn x).2 i conn r else (false,(w.serveR i conn x).2)
theorem SI.serveL {i:Nat} {conn:Int}:∀ {l:List (List UInt8)} {w:Cu} {n:Nat},SI w n→SI (w.serveL i conn l).2 (n+l.length)∧(w.serveL i conn l).2.pes=w.pes∧(w.serveL i conn l).2.now=w.now∧(w.serveL i conn l).2.cs.length=w.cs.length
  | [],w,n,h=>⟨h,rfl,rfl,rfl⟩
  | x::r,w,n,h=>by
    obtain ⟨a,b,c,d⟩:=h.serve i conn x
    unfold Cu.serveL
    split
    ·obtain ⟨a',b',c',d'⟩:=SI.serveL (i:=i) (conn:=conn) (l:=r) a
     refine ⟨?_,b'.trans b,c'.trans c,d'.trans d⟩
     rw [List.length_cons]
     have e:n+(r.length+1)=n+1+r.length:=by omega
     rw [e];exact a'
    ·refine ⟨⟨a.net,a.srv,?_⟩,b,c,d⟩
     have:=a.grs
     show (w.serveR i conn x).2.grs.length≤_
     rw [List.length_cons]
     omega
def Cu.toSrvR (w:Cu) (i:Nat) (most:Int):Int × Cu:=match w.pes[i]? with
  | none=>(0,w)
  | some p=>if w.mvE p most≠0 then (w.mvE p most,w) else match p.rd with
    | none=>(0,w)
    | some (st,br) =>
      let q:=putS st br (w.moved p.conn 0 most).1
      let r:=Cu.serveL { w with cs:=(w.moved p.conn 0 most).2,pes:=w.pes.set i { p with rd:=some (q.2.2,q.2.1)}} i p.conn q.1
      (0,if r.1=true∧q.2.1=false then r.2 else r.2.cut i)
def Cu.toClR (w:Cu) (i:Nat) (most:Int):Int × Cu:=match w.pes[i]? with
  | none=>(0,w)
  | some p=>if w.mvE p most≠0 then (w.mvE p most,w) else if (w.moved p.conn 1 most).1=[] then (0,{ w with cs:=(w.moved p.conn 1 most).2 }) else
    let r:=p.cl.bytesR w.now (w.moved p.conn 1 most).1
    let w2:Cu:={ w with cs:=(w.moved p.conn 1 most).2,pes:=w.pes.set i { p with cl:=r.1 }}
    (0,if r.2≠0 then w2.cut i else w2.sends i)
section
variable {h h':Zb} {T:TT} {wb:Nat} {sp:Sl} {w:Cu}
theorem Zrr (hW:Wld h T wb sp w) (hN:Zg1 w.cs) {o:Op} {i:Nat} (hi:o.2.1=(i:Int)) {p:Pe} (hp:w.pes[i]?=some p) (hcl:WOK p.cl∧NOK p.cl) (hbr:p.cl.broken=false) (hrb:p.cl.rb.length≤549755813888)
    (hb1:∀ l:List UInt8,l.length≤65536→(WOK (p.cl.bytesR w.now l).1∧NOK (p.cl.bytesR w.now l).1)∧(p.cl.bytesR w.now l).1.out.length≤1099511627776) {K:(Int × Bool × Int × Unit)→Zb→Prop}
    (hk:Zki T h wb sp (w.toClR i o.2.2.2.1).2 (0,false,(w.toClR i o.2.2.2.1).1,()) K):YK (some ⟨wb,0,none⟩) o K h:=by
  unfold YK Za7
  unfold Cu.toClR at hk
  rw [hp] at hk
  dsimp only at hk
  refine ZfX hW fun h3 e3 hW3 d1 d2 z3=>Zg ?_
  have n2:T (sz h+1)=none:=hW.no (by omega)
  obtain ⟨nb,sb,sg,pl,hR⟩:=hW3
  refine rL (hR.wc (j:=3) rfl) (rI (Zu d1 rfl) (hR.idx hp hi fun b hb=>rI (Zu d1 rfl) ?_))
  refine ZkB (j:=1) ⟨nb,sb,sg,pl,hR⟩ hN hp hb (by decide) (fun e=>Za (XY (fun _=>?_) (fun e2=>(e e2).elim))) (fun e out h4 T4 hW4 s4 hB4 n4=>Za (XY (fun e2=>(e2 rfl).elim) fun _=>?_))
  ·rw [if_pos e] at hk
   exact Zew rfl d2 ⟨nb,sb,sg,pl,hR⟩ ((Zav.refl T h).ext e3) n2 hk
  rw [if_neg (fun h=>h e)] at hk
  have hm:=(Zhi hN (conn:=p.conn) (j:=1) (by decide) (most:=o.2.2.2.1) (by
    unfold Cu.mvE at e
    split at e
    ·cases e
    ·split at e
     ·cases e
     ·split at e
      ·cases e
      ·omega)).2
  have hlen:out.len=(w.moved p.conn 1 o.2.2.2.1).1.length:=Bytes.length hB4
  have d4:=s4.keep d2 n2
  have m4:=s4.none_ n2 (by omega)
  have s4':=Zav.pre e3 s4
  refine Zi (fun c=>?_) (fun c=>Zg ?_)
  ·have c:(w.moved p.conn 1 o.2.2.2.1).1=[]:=List.eq_nil_of_length_eq_zero (by omega)
   rw [if_pos c] at hk
   exact Zew rfl d4 hW4 s4' m4 hk
  have c:¬ (w.moved p.conn 1 o.2.2.2.1).1=[]:=fun e=>c (by rw [e] at hlen;rw [hlen];rfl)
  rw [if_neg c] at hk
  obtain ⟨nb4,sb4,sg4,pl4,hR4⟩:=hW4
  obtain ⟨cb,rb,hx⟩:=hR4.pe2 (p:=p) hp
  refine rP (hR4.pc hx hb (j:=0) (by decide) rfl) (rI (hR4.wc (j:=4) rfl) ?_)
  have hC:=hR4.cls i _ hx
  obtain ⟨hb2,hb3⟩:=hb1 (w.moved p.conn 1 o.2.2.2.1).1 hm.2
  generalize (w.moved p.conn 1 o.2.2.2.1).1=l at hk hB4 hm hlen c hb2 hb3
  refine Zqi hC hcl.1 hcl.2 hbr hB4 (fun _ k hk=>ZaR (n4 k hk).1) (by have:=hm.2;show p.cl.rb.length+_≤_;omega) fun h5 T5 hC5 s5=>?_
  obtain ⟨hR5,s5⟩:=hR4.clS hx s5 hC5
  have hp5:(Cu.setP { w with cs:=(w.moved p.conn 1 o.2.2.2.1).2 } i { p with cl:=(p.cl.bytesR w.now l).1 }).pes[i]?=some { p with cl:=(p.cl.bytesR w.now l).1 }:=Zgb hp
  have s45:=s4.trans s5
  refine XY (fun e=>?_) (fun e=>?_)
  ·have e:(p.cl.bytesR w.now l).2≠0:=e
   rw [if_pos e] at hk
   refine Zht ⟨nb4,sb4,sg4,_,hR5⟩ hp5 hb2 hb fun h6 T6 hW6 s6=>?_
   have s46:=s45.trans s6
   exact Zew rfl (s46.keep d2 n2) hW6 (Zav.pre e3 s46) (s46.none_ n2 (by omega)) hk
  ·have e:(p.cl.bytesR w.now l).2=0:=e
   rw [if_neg (fun h=>h e)] at hk
   refine ZhI ⟨nb4,sb4,sg4,_,hR5⟩ hp5 hb2 hb3 (fun c j hc hj=>(hm.1 c j hc hj).1) hb fun h6 T6 hW6 s6=>?_
   have s46:=s45.trans s6
   exact Zew rfl (s46.keep d2 n2) hW6 (Zav.pre e3 s46) (s46.none_ n2 (by omega)) hk
end
theorem Zi4 {i:Nat} {conn:Int}:∀ (l:List (List UInt8)) (w:Cu) (k:Nat) (x:List UInt8),l[k]?=some x→∀ w1,w.serveL i conn (l.take k)=(true,w1) →
    w.serveL i conn (l.take (k+1))=((w1.serveR i conn x).1,(w1.serveR i conn x).2)∧((w1.serveR i conn x).1=false→w.serveL i conn l=(false,(w1.serveR i conn x).2))
  | [],_,_,_,h,_,_=>by cases h
  | y::l,w,0,x,h,w1,hw=>by
    cases Option.some.inj h
    have:w=w1:=by
      have e:w.serveL i conn []=(true,w1):=hw
      exact congrArg Prod.snd e
    subst this
    refine ⟨?_,fun hf=>?_⟩
    ·show Cu.serveL w i conn [y]=_
     unfold Cu.serveL
     split
     ·rename_i e;rw [e];rfl
     ·rename_i e
      have e:(w.serveR i conn y).1=false:=by simpa using e
      rw [e]
    ·unfold Cu.serveL
     rw [if_neg (by rw [hf];exact fun e=>by cases e)]
  | y::l,w,k+1,x,h,w1,hw=>by
    rw [List.take_succ_cons] at hw
    unfold Cu.serveL at hw
    split at hw
    ·rename_i e
     obtain ⟨a,b⟩:=Zi4 l (w.serveR i conn y).2 k x h w1 hw
     refine ⟨?_,fun hf=>?_⟩
     ·rw [List.take_succ_cons]
      rw [Cu.serveL,if_pos e]
      exact a
     ·rw [Cu.serveL,if_pos e]
      exact b hf
    ·cases hw
section
variable {h h':Zb} {T:TT} {wb:Nat} {sp:Sl} {w:Cu}
theorem Zpw (hW:Wld h T wb sp w) {n:Nat} (hS:SI w n) (hn:n≤549755813888) {o:Op} {i:Nat} (hi:o.2.1=(i:Int)) {p:Pe} (hp:w.pes[i]?=some p) (hcl:WOK p.cl∧NOK p.cl) (hrd:p.conn≠0→∃ st br,p.rd=some (st,br)∧st.length≤4099) {K:(Int × Bool × Int × Unit)→Zb→Prop}
    (hk:Zki T h wb sp (w.toSrvR i o.2.2.2.1).2 (0,false,(w.toSrvR i o.2.2.2.1).1,()) K):YJ (some ⟨wb,0,none⟩) o K h:=by
  unfold YJ Za6
  unfold Cu.toSrvR at hk
  rw [hp] at hk
  dsimp only at hk
  refine ZfX hW fun h3 e3 hW3 d1 d2 z3=>Zg ?_
  have n1:T (sz h)=none:=hW.no (by omega)
  have n2:T (sz h+1)=none:=hW.no (by omega)
  obtain ⟨nb,sb,sg,pl,hR⟩:=hW3
  refine rL (hR.wc (j:=3) rfl) (rI (Zu d1 rfl) (hR.idx hp hi fun b hb=>rI (Zu d1 rfl) ?_))
  refine ZkB (j:=0) ⟨nb,sb,sg,pl,hR⟩ hS.net hp hb (by decide) (fun e=>Za (XY (fun _=>?_) (fun e2=>(e e2).elim))) (fun e out h4 T4 hW4 s4 hB4 n4=>Za (XY (fun e2=>(e2 rfl).elim) fun _=>?_))
  ·rw [if_pos e] at hk
   exact Zew rfl d2 ⟨nb,sb,sg,pl,hR⟩ ((Zav.refl T h).ext e3) n2 hk
  rw [if_neg (fun h=>h e)] at hk
  have hme:p.conn≠0∧0≤o.2.2.2.1:=by
    unfold Cu.mvE at e
    split at e
    ·cases e
    ·split at e
     ·cases e
     ·rename_i c
      split at e
      ·cases e
      ·exact ⟨c,by omega⟩
  obtain ⟨st,br,hrde,hst⟩:=hrd hme.1
  rw [hrde] at hk
  dsimp only at hk
  have hm:=(Zhi hS.net (conn:=p.conn) (j:=0) (by decide) hme.2).2
  have d4:=s4.keep d2 n2
  have m4:=s4.none_ n2 (by omega)
  have f4:=s4.keep d1 n1
  have m14:=s4.none_ n1 (by omega)
  obtain ⟨nb4,sb4,sg4,pl4,hR4⟩:=hW4
  obtain ⟨cb,rb,hx⟩:=hR4.pe2 (p:=p) hp
  refine rP (hR4.pc hx hb (j:=2) (by decide) rfl) ?_
  have era:rdA rb p.rd=some ⟨rb,0,none⟩:=by rw [hrde];rfl
  show Y3 (rdA rb p.rd) _ _ _
  rw [era]
  have hrr:=hR4.rds i _ st br hx hrde
  obtain ⟨s0,q1,q2,q3,q4⟩:=hrr.cells
  have hG:IsG 173 h4 rb (fun k=>k≠rb) st br:=⟨⟨s0,q1,q2,(fun k hk h9=>by have:=q3 k hk;rw [h9,hrr.trb] at this;cases this),q4⟩⟩
  generalize (w.moved p.conn 0 o.2.2.2.1).1=l at hk hB4 hm
  refine Znt hG hB4 (by have:=hm.2;omega) fun out5 h5 mid hm1 hm2 hout hG5 u5=>?_
  obtain ⟨s5,r1,r2,r3,r4⟩:=hG5.cells
  have rblt:rb<sz h4:=by
    have:T4 rb≠none:=by
      obtain ⟨t,ht⟩:=ZfE (j:=4+2*i) (T:=T4) (k:=rb) (by rw [hrr.trb];exact fun e=>by cases e)
      rw [ht];exact fun e=>by cases e
    exact hR4.lt rb this
  have hSt:Stp (prj (4+2*i) T4) (fun k=>if k=rb then some 0 else if s5.blk=some k then some 1 else none) h4 h5:=by
    refine ⟨u5.mono fun k _ hk=>(by rw [hk,hrr.trb];exact fun e=>by cases e),fun k hk=>?_⟩
    by_cases e:k=rb
    ·rw [e,hrr.trb];exact .inl fun e=>by cases e
    ·rw [if_neg e] at hk
     by_cases e2:s5.blk=some k
     ·exact .inr (r3 k e2).1
     ·rw [if_neg e2] at hk;exact (hk rfl).elim
  have hq1:(putS st br l).1.length≤st.length+l.length:=by
    unfold putS
    split
    ·exact Nat.zero_le _
    ·have:=(ZlL _ (st++l) (Nat.le_refl _)).2.2.2
     rw [List.length_append] at this
     exact this
  have hl:=hm.2
  generalize putS st br l=q at hk hout r1 r2 r4 hq1 ⊢
  obtain ⟨hR5,s5'⟩:=hR4.rdS hx hSt (fun k hk=>by
    by_cases e:k=rb
    ·rw [e];exact Nat.lt_of_lt_of_le rblt u5.size
    ·rw [if_neg e] at hk
     by_cases e2:s5.blk=some k
     ·exact Nat.lt_of_lt_of_le (r3 k e2).2 hm2
     ·rw [if_neg e2] at hk;exact (hk rfl).elim) hrde (l:=q.2.2) (br:=q.2.1) ⟨⟨s5,r1,r2,fun k hk=>by
      have hne:k≠rb:=fun e=>by
        have h9:sz h4≤k:=(r3 k hk).1
        omega
      rw [if_neg hne,if_pos hk],r4⟩,if_pos rfl⟩
  have s45:=s4.trans s5'
  generalize hT5:cmb (4+2*i) T4 (fun k=>if k=rb then some 0 else if s5.blk=some k then some 1 else none)=T5 at hR5 s5' s45
  have hmid:∀ k,mid≤k→k<sz h5→T5 k=none:=fun k hk _=>by
    rw [← hT5]
    have h9:sz h4≤k:=Nat.le_trans hm1 hk
    refine Zpe ?_ (hR4.no h9)
    rw [if_neg (by omega),if_neg fun e=>by have:=(r3 k e).2;omega]
  have d5:=s45.keep d2 n2
  have f5:=s45.keep d1 n1
  have m5:=s45.none_ n2 (by omega)
  have m15:=s45.none_ n1 (by omega)
  generalize hw5:(Cu.setP { w with cs:=(w.moved p.conn 0 o.2.2.2.1).2 } i { (cb,rb,p).2.2 with rd:=some (q.2.2,q.2.1)})=w5 at hR5
  have hw5':({ w with cs:=(w.moved p.conn 0 o.2.2.2.1).2,pes:=w.pes.set i { p with rd:=some (q.2.2,q.2.1)}}:Cu)=w5:=hw5
  rw [hw5'] at hk
  have hp5:w5.pes[i]?=some { p with rd:=some (q.2.2,q.2.1)}:=by rw [← hw5];exact Zgb hp
  have hS5:SI w5 n:=by rw [← hw5];exact ⟨hm.1,hS.srv,hS.grs⟩
  have hol:out5.len=q.1.length:=Xh.len hout
  refine Za ?_
  refine Zpc (J:=fun s hh=>∃ T',s=((if (w5.serveL i p.conn q.1).1=false then 50 else if q.2.1=true then 50 else 0:Int),())∧Wld hh T' wb sp (w5.serveL i p.conn q.1).2∧Zav T5 T' h5 hh) ?_ ?_
  ·rintro _ h6 ⟨T6,rfl,hW6,s6⟩
   have hp6:(w5.serveL i p.conn q.1).2.pes[i]?=some { p with rd:=some (q.2.2,q.2.1)}:=by rw [(hS5.serveL (i:=i) (conn:=p.conn) (l:=q.1)).2.1];exact hp5
   have s46:=s45.trans s6
   refine XY (fun e=>?_) (fun e=>?_)
   ·refine Zht hW6 hp6 hcl hb fun h7 T7 hW7 s7=>?_
    have s47:=s46.trans s7
    refine Zew rfl (s47.keep d2 n2) hW7 (Zav.pre e3 s47) (s47.none_ n2 (by omega)) ?_
    rw [if_neg fun h9=>e (by rw [h9.1,h9.2];rfl)] at hk
    exact hk
   ·refine Zew rfl (s46.keep d2 n2) hW6 (Zav.pre e3 s46) (s46.none_ n2 (by omega)) ?_
    rw [if_pos (by
      split at e
      ·cases e
      ·rename_i h1
       split at e
       ·cases e
       ·rename_i h2
        exact ⟨by simpa using h1,by simpa using h2⟩)] at hk
    exact hk
  ·intro Q hQ
   refine Zdi (I:=fun s hh=>∃ (k:Nat) (T':TT) (w':Cu),s=((if q.2.1=true then 50 else 0:Int),(k:Int),())∧k≤q.1.length∧Wld hh T' wb sp w'∧Zav T5 T' h5 hh∧w5.serveL i p.conn (q.1.take k)=(true,w')) (fun s _=>q.1.length - s.2.1.toNat)
     ⟨0,T5,w5,rfl,Nat.zero_le _,⟨nb4,sb4,sg4,_,hR5⟩,Zav.refl _ _,rfl⟩ ?_
   rintro _ h6 ⟨k,T6,w6,rfl,hkl,hW6,s6,hsv⟩ Q2 hQ2
   dsimp only
   refine Zi (fun c=>?_) (fun c=>?_)
   ·have hkl2:k<q.1.length:=by omega
    have hx:q.1[k]?=some q.1[k]:=List.getElem?_eq_getElem hkl2
    generalize q.1[k]=x at hx
    obtain ⟨t1,t2⟩:=Zi4 q.1 w5 k x hx w6 hsv
    have hout6:Xh h6 mid out5 q.1:=hout.congr fun k hk hge=>s6.upd.old k hk fun h9=>h9 (hmid k hge hk)
    have hsi:=hS5.serveL (i:=i) (conn:=p.conn) (l:=q.1.take k)
    rw [hsv] at hsi
    obtain ⟨i1,i2,i3,_⟩:=hsi
    have hp6:w6.pes[i]?=some { p with rd:=some (q.2.2,q.2.1)}:=by rw [i2];exact hp5
    have f6:=(s45.trans s6).keep d1 n1
    refine Xh.idx hout6 rfl hx fun y hy=>rI (Zu f6 rfl) ?_
    rw [hi]
    refine ZpE hW6 i1.srv.ok (by have h9:w6.grs.length≤_:=i1.grs;rw [List.length_take] at h9;omega) (fun c j hc hj=>(i1.net c j hc hj).1) hp6 hb hy fun h7 T7 hW7 s7=>?_
    refine ⟨fun e=>Za (hQ _ _ ⟨T7,?_,?_,s6.trans s7⟩),fun e=>?_⟩
    ·have e:(w6.serveR i p.conn x).1=false:=by simpa using e
     rw [t2 e];rfl
    ·have e:(w6.serveR i p.conn x).1=false:=by simpa using e
     rw [t2 e];exact hW7
    ·have e:(w6.serveR i p.conn x).1=true:=by simpa using e
     rw [wrS hkl2 (by omega)]
     refine hQ2 _ _ ⟨k+1,T7,_,rfl,hkl2,hW7,s6.trans s7,?_⟩ (by dsimp only;omega)
     rw [t1,e]
   ·have e:k=q.1.length:=by omega
    subst e
    rw [List.take_length] at hsv
    refine hQ _ _ ⟨T6,?_,?_,s6⟩
    ·rw [hsv];rfl
    ·rw [hsv];exact hW6
end
end Go.Proofs.YtbppjmcinoffnaaGreat
namespace Go.Proofs.YtbppjmcinoffnaaGreat
open Go Go.Fw
open Nat (reduceAdd reduceLT reduceLeDiff reduceEqDiff reduceMul)
structure ZuD (tmo now:Int) (p:Pe) (n:Nat):Prop where
  cl:On2 p.cl n
  last:p.cl.last≤now
  tmo:p.cl.tmo=tmo
  rd:p.conn≠0→∃ st,p.rd=some (st,false)∧st.length≤4099
  no:p.conn=0→p.rd=none
  up:p.conn≠0→p.cl.up=true
structure ZbI (tmo:Int) (w:Cu) (n:Nat):Prop where
  net:Zg1 w.cs
  csl:w.cs.length≤n
  srv:SOK w.srv
  grs:w.grs.length≤80000*n
  now:0≤w.now∧w.now≤1152921504606846976
  few:w.pes.length≤8
  pes:∀ (i:Nat) (p:Pe),w.pes[i]?=some p→ZuD tmo w.now p n
theorem ZuD.mono {tmo now now':Int} {p:Pe} {n n':Nat} (h:ZuD tmo now p n) (hn:n≤n') (hw:now≤now'):ZuD tmo now' p n':=⟨h.cl.mono hn,by have:=h.last;omega,h.tmo,h.rd,h.no,h.up⟩
theorem ZbI.mono {tmo:Int} {w:Cu} {n n':Nat} (h:ZbI tmo w n) (hn:n≤n'):ZbI tmo w n':=⟨h.net,by have:=h.csl;omega,h.srv,by have:=h.grs;omega,h.now,h.few,fun i p hp=>(h.pes i p hp).mono hn (Int.le_refl _)⟩
theorem ZbI.set {tmo:Int} {w:Cu} {n:Nat} (h:ZbI tmo w n) {i:Nat} {p:Pe} (hp:ZuD tmo w.now p n):ZbI tmo (w.setP i p) n :=
  ⟨h.net,h.csl,h.srv,h.grs,h.now,by have:=h.few;show (w.pes.set i p).length≤8;rw [List.length_set];exact this,fun k q hq=>by
    have hq:(w.pes.set i p)[k]?=some q:=hq
    rcases Zej hq with ⟨_,rfl,_⟩ | ⟨_,h2⟩
    ·exact hp
    ·exact h.pes k q h2⟩
theorem ZbI.nets {tmo:Int} {w:Cu} {n:Nat} (h:ZbI tmo w n) {cs:List St.Cn} (h1:Zg1 cs) (h2:cs.length≤n):ZbI tmo { w with cs:=cs } n:=⟨h1,h2,h.srv,h.grs,h.now,h.few,h.pes⟩
theorem ZbI.srvs {tmo:Int} {w:Cu} {n:Nat} (h:ZbI tmo w n) {S:Tk.Srv} (h1:SOK S):ZbI tmo { w with srv:=S } n:=⟨h.net,h.csl,h1,h.grs,h.now,h.few,h.pes⟩
def Kp (now:Int) (c c':Cl):Prop:=c'.tmo=c.tmo∧(c.last≤now→c'.last≤now)
theorem ZmU (c:Cl) (now:Int):Kp now c (c.atS now):=by
  unfold Cl.atS
  split
  ·exact ⟨rfl,fun _=>Int.le_refl _⟩
  ·exact ⟨rfl,id⟩
theorem ZlA (c:Cl) (now:Int):Kp now c (c.lostS now):=by
  unfold Cl.lostS
  split
  ·split
   ·exact ⟨rfl,fun _=>Int.le_refl _⟩
   ·exact ⟨rfl,fun _=>Int.le_refl _⟩
  ·exact ⟨rfl,id⟩
theorem Zzm (c:Cl) (now:Int):Kp now c (c.upS now):=by
  unfold Cl.upS
  split
  ·split
   ·exact ⟨rfl,fun _=>Int.le_refl _⟩
   ·exact ⟨rfl,fun _=>Int.le_refl _⟩
  ·exact ⟨rfl,id⟩
theorem Zvm (c:Cl) (now:Int):Kp now c (c.refS now):=by
  unfold Cl.refS
  split
  ·split
   ·exact ⟨rfl,fun _=>Int.le_refl _⟩
   ·exact ⟨rfl,fun _=>Int.le_refl _⟩
  ·exact ⟨rfl,id⟩
theorem Zzn (c:Cl) (now:Int) (r:Rq):Kp now c (c.askR now r).2∧(c.askR now r).2.up=c.up:=by
  unfold Cl.askR
  split
  ·split
   ·split
    ·exact ⟨⟨rfl,fun _=>Int.le_refl _⟩,rfl⟩
    ·exact ⟨⟨rfl,fun _=>Int.le_refl _⟩,rfl⟩
   ·exact ⟨⟨rfl,fun _=>Int.le_refl _⟩,rfl⟩
  ·exact ⟨⟨rfl,id⟩,rfl⟩
theorem Zrw:∀ (l:List (List UInt8)) (c:Cl),(c.take l).1.up=c.up
  | [],_=>rfl
  | p::ps,c=>by
    unfold Cl.take
    split
    ·rfl
    ·rw [Zrw ps]
     unfold Cl.answ
     split<;>rfl
theorem Zt8 (c:Cl) (now:Int) (l:List UInt8):Kp now c (c.bytesR now l).1∧((c.bytesR now l).2=0→(c.bytesR now l).1.up=c.up):=by
  unfold Cl.bytesR
  split
  ·split
   ·unfold Cl.putB
    dsimp only
    have h1:=ZiZ (putS (c.tick now).rb (c.tick now).broken l).1 { c.tick now with rb:=(putS (c.tick now).rb (c.tick now).broken l).2.2,broken:=(putS (c.tick now).rb (c.tick now).broken l).2.1 }
    have h2:=Zrw (putS (c.tick now).rb (c.tick now).broken l).1 { c.tick now with rb:=(putS (c.tick now).rb (c.tick now).broken l).2.2,broken:=(putS (c.tick now).rb (c.tick now).broken l).2.1 }
    generalize Cl.take { c.tick now with rb:=(putS (c.tick now).rb (c.tick now).broken l).2.2,broken:=(putS (c.tick now).rb (c.tick now).broken l).2.1 } (putS (c.tick now).rb (c.tick now).broken l).1=d at h1 h2 ⊢
    obtain ⟨a1,a2,_⟩:=h1
    generalize (if d.2=true then 50 else if (putS (c.tick now).rb (c.tick now).broken l).2.1=true then 50 else 0:Int)=e
    split
    ·exact ⟨⟨a2,fun _=>by rw [a1];exact Int.le_refl _⟩,fun _=>h2⟩
    ·rename_i he
     exact ⟨⟨a2,fun _=>by show d.1.last≤now;rw [a1];exact Int.le_refl _⟩,fun h=>(he h).elim⟩
   ·exact ⟨⟨rfl,fun _=>Int.le_refl _⟩,fun _=>rfl⟩
  ·exact ⟨⟨rfl,id⟩,fun _=>rfl⟩
theorem Zwn (cs:List St.Cn) (k e:Int) (l:List UInt8):(St.wrS cs k e l).2.length=cs.length:=by
  unfold St.wrS
  split
  ·rfl
  ·unfold St.wrI
   split
   ·rfl
   ·split
    ·rfl
    ·split
     ·rfl
     ·exact List.length_set
theorem Zot (cs:List St.Cn) (l:List Int):(St.brS cs l).2.length=cs.length:=by
  have h1:∀ (l:List Int) (cs:List St.Cn),(St.brA cs l).length=cs.length:=by
    intro l
    induction l with
    | nil=>exact fun cs=>rfl
    | cons k r ih =>
      intro cs
      unfold St.brA
      rw [ih]
      split
      ·exact List.length_set
      ·rfl
  unfold St.brS
  split
  ·rfl
  ·rfl
  ·exact h1 l cs
theorem ZwH (cs:List St.Cn) (k e m:Int):(St.mvS cs k e m).2.length=cs.length:=by
  unfold St.mvS
  split
  ·rfl
  ·unfold St.mvI
   split
   ·rfl
   ·exact List.length_set
theorem Zww (cs:List St.Cn) (k e m:Int):(St.Zth cs k e m).2.length=cs.length:=by
  unfold St.Zth
  split
  ·rfl
  ·unfold St.rdI
   split
   ·rfl
   ·exact List.length_set
theorem Zhj (w:Cu) (conn:Int) (j:Nat) (most:Int):(w.moved conn j most).2.length=w.cs.length:=by
  unfold Cu.moved
  rw [Zww,ZwH]
theorem ZbI.cut {tmo:Int} {w:Cu} {n:Nat} (h:ZbI tmo w n) (i:Nat):ZbI tmo (w.cut i) n:=by
  unfold Cu.cut
  split
  ·exact h
  ·rename_i p hp
   split
   ·exact h
   ·have hP:=h.pes i p hp
    refine ((h.nets (ZsT h.net [p.conn]) (by rw [Zot];exact h.csl)).srvs (h.srv.closed p.conn)).set (i:=i) (p:=⟨if p.cl.up then p.cl.lostS w.now else p.cl,0,none⟩) ⟨?_,?_,?_,fun e=>(e rfl).elim,fun _=>rfl,fun e=>(e rfl).elim⟩
    ·show On2 (if p.cl.up=true then p.cl.lostS w.now else p.cl) n
     split
     ·exact hP.cl.lostS _
     ·exact hP.cl
    ·show (if p.cl.up=true then p.cl.lostS w.now else p.cl).last≤w.now
     split
     ·exact (ZlA p.cl w.now).2 hP.last
     ·exact hP.last
    ·show (if p.cl.up=true then p.cl.lostS w.now else p.cl).tmo=tmo
     split
     ·rw [(ZlA p.cl w.now).1];exact hP.tmo
     ·exact hP.tmo
theorem ZuD.sent {tmo now:Int} {p:Pe} {n:Nat} (h:ZuD tmo now p n):ZuD tmo now { p with cl:={ p.cl with out:=[]}} n:=⟨h.cl.sent,h.last,h.tmo,h.rd,h.no,h.up⟩
theorem ZbI.sends {tmo:Int} {w:Cu} {n:Nat} (h:ZbI tmo w n) (i:Nat):ZbI tmo (w.sends i) n:=by
  unfold Cu.sends
  split
  ·exact h
  ·rename_i p hp
   have hP:=h.pes i p hp
   have h1:ZbI tmo { w with cs:=(St.wrS w.cs p.conn 0 p.cl.out).2,pes:=w.pes.set i { p with cl:={ p.cl with out:=[]}}} n :=
     (h.nets (Zu5 (j:=0) h.net p.conn (by decide) p.cl.out) (by show (St.wrS w.cs p.conn 0 p.cl.out).2.length≤n;rw [Zwn];exact h.csl)).set (i:=i) hP.sent
   split
   ·exact h
   ·split
    ·exact h
    ·split
     ·exact h.set hP.sent
     ·split
      ·exact h1
      ·exact h1.cut i
theorem ZbI.cutK {tmo:Int} {w:Cu} {n:Nat} (h:ZbI tmo w n):∀ k,ZbI tmo (w.cutK k) n
  | 0=>h
  | k+1=>(ZbI.cutK h k).cut k
theorem ZbI.tick {tmo:Int} {w:Cu} {n:Nat} (h:ZbI tmo w n) {at_:Int} (he:w.tickE at_=0):ZbI tmo (Cu.tickA { w with now:=at_ }) n:=by
  unfold Cu.tickE at he
  split at he
  ·cases he
  ·split at he
   ·cases he
   ·split at he
    ·cases he
    ·rename_i h1 h2 h3
     refine ⟨h.net,h.csl,h.srv,h.grs,⟨by show 0≤at_;omega,by show at_≤_;omega⟩,?_,fun i q hq=>?_⟩
     ·show (List.mapIdx _ _).length≤8
      rw [List.length_mapIdx];exact h.few
     ·have hq:(w.pes.mapIdx fun j p=>if j<w.pes.length then p.atP at_ else p)[i]?=some q:=hq
      rw [List.getElem?_mapIdx] at hq
      cases hp:w.pes[i]? with
      | none=>rw [hp] at hq;cases hq
      | some p =>
        rw [hp] at hq
        simp only [Option.map_some,if_pos (Za3 hp),Option.some.injEq] at hq
        subst hq
        have hP:=h.pes i p hp
        have hl:p.cl.last≤at_:=by have:=hP.last;omega
        refine ⟨hP.cl.atS at_,(ZmU p.cl at_).2 hl,(ZmU p.cl at_).1.trans hP.tmo,hP.rd,hP.no,fun hc=>?_⟩
        have:=hP.up hc
        show (p.cl.atS at_).up=true
        unfold Cl.atS
        split
        ·exact this
        ·exact this
theorem ZbI.ask {tmo:Int} {w:Cu} {n:Nat} (h:ZbI tmo w n) (hn:n≤1000) (i:Nat) (r:Rq):ZbI tmo (w.askR i r).2 (n+1):=by
  unfold Cu.askR
  split
  ·exact h.mono (Nat.le_succ n)
  ·rename_i p hp
   have hP:=h.pes i p hp
   obtain ⟨k1,k2⟩:=Zzn p.cl w.now r
   exact ((h.mono (Nat.le_succ n)).set (i:=i) (p:={ p with cl:=(p.cl.askR w.now r).2 }) ⟨hP.cl.ask hn w.now r,k1.2 hP.last,k1.1.trans hP.tmo,hP.rd,hP.no,fun hc=>k2.trans (hP.up hc)⟩).sends i
theorem ZbI.start {tmo:Int} {w:Cu} {n:Nat} (h:ZbI tmo w n):ZbI tmo w.startR.2 n:=by
  unfold Cu.startR
  split
  ·exact h
  ·refine ⟨h.net,h.csl,?_,h.grs,h.now,h.few,h.pes⟩
   show SOK (if _ then _ else _)
   split
   ·exact h.srv.restarted _
   ·exact h.srv
theorem ZbI.stop {tmo:Int} {w:Cu} {n:Nat} (h:ZbI tmo w n):ZbI tmo w.stopB n:=⟨h.net,h.csl,h.srv,h.grs,h.now,h.few,h.pes⟩
theorem Zw2 (ps:Int→Bool) (cs:List St.Cn) (port:Int):(St.diS ps cs port).2.length≤cs.length+1:=by
  unfold St.diS
  split
  ·exact Nat.le_succ _
  ·split
   ·exact Nat.le_succ _
   ·split
    ·exact Nat.le_succ _
    ·rw [List.length_append];exact Nat.le_refl _
theorem ZbI.conn1 {tmo:Int} {w:Cu} {n:Nat} (h:ZbI tmo w n):ZbI tmo w.conn1.2 (n+1):=by
  have hl:(St.diS w.ps w.cs 1).2.length≤n+1:=Nat.le_trans (Zw2 _ _ _) (Nat.succ_le_succ h.csl)
  have h':=h.mono (Nat.le_succ n)
  unfold Cu.conn1
  split
  ·exact h'
  ·split
   ·exact h'.nets (ZsI h.net 1) hl
   ·split
    ·exact (h'.nets (ZsT (ZsI h.net 1) _) (by rw [Zot];exact hl)).srvs (h.srv.opened _)
    ·exact (h'.nets (ZsI h.net 1) hl).srvs (h.srv.opened _)
theorem ZD8 {c:Cl} {now:Int} (hl:c.last≤now) (hn:0≤now∧now≤1152921504606846976):(c.upS now).up=true:=by
  have he:c.atE now=0:=by
    unfold Cl.atE
    rw [if_neg (by omega),if_neg (by omega),if_neg (by omega)]
  unfold Cl.upS
  rw [if_pos he]
  split
  ·rename_i h;exact h
  ·rfl
theorem ZbI.dial {tmo:Int} {w:Cu} {n:Nat} (h:ZbI tmo w n) (i:Nat):ZbI tmo (w.dialR i).2 (n+1):=by
  unfold Cu.dialR
  have h':=h.mono (Nat.le_succ n)
  split
  ·exact h'
  ·rename_i p hp
   have hP:=h.pes i p hp
   have hA:=hP.cl.atS w.now
   have kA:=ZmU p.cl w.now
   have enow:w.conn1.2.now=w.now:=(Zhu w).2.1
   split
   ·exact h'
   ·rename_i hu
    have hc0:p.conn=0:=Classical.byContradiction fun e=>hu (hP.up e)
    split
    ·exact h'.set (i:=i) ⟨hA.succ,kA.2 hP.last,kA.1.trans hP.tmo,hP.rd,hP.no,fun hc=>(hc hc0).elim⟩
    ·split
     ·refine h.conn1.set (i:=i) ⟨(hA.refS w.now).succ,?_,(Zvm _ _).1.trans (kA.1.trans hP.tmo),fun e=>(e rfl).elim,fun _=>hP.no hc0,fun e=>(e rfl).elim⟩
      rw [enow]
      exact (Zvm _ _).2 (kA.2 hP.last)
     ·rename_i hc
      refine (h.conn1.set (i:=i) ⟨hA.upS w.now,?_,(Zzm _ _).1.trans (kA.1.trans hP.tmo),fun _=>⟨[],rfl,Nat.zero_le _⟩,fun e=>(hc e).elim,fun _=>ZD8 (kA.2 hP.last) h.now⟩).sends i
      rw [enow]
      exact (Zzm _ _).2 (kA.2 hP.last)
theorem Zvh {w:Cu} {p:Pe} {most:Int} (h:¬ w.mvE p most≠0):p.cl.up=true∧p.conn≠0∧0≤most:=by
  have h:w.mvE p most=0:=Classical.byContradiction h
  unfold Cu.mvE at h
  split at h
  ·cases h
  ·rename_i h1
   split at h
   ·cases h
   ·rename_i h2
    split at h
    ·cases h
    ·exact ⟨by simpa using h1,h2,by omega⟩
theorem ZbI.toSrv {tmo:Int} {w:Cu} {n:Nat} (h:ZbI tmo w n) (i:Nat) (most:Int):ZbI tmo (w.toSrvR i most).2 (n+1):=by
  unfold Cu.toSrvR
  have h':=h.mono (Nat.le_succ n)
  split
  ·exact h'
  ·rename_i p hp
   have hP:=h'.pes i p hp
   split
   ·exact h'
   ·rename_i hm
    obtain ⟨m1,m2,m3⟩:=Zvh hm
    split
    ·exact h'
    ·rename_i st br hrd
     dsimp only
     obtain ⟨st',e1,e2⟩:=hP.rd m2
     rw [hrd] at e1
     injection e1 with e1
     injection e1 with e1 e3
     subst e1 e3
     obtain ⟨_,q2,q3⟩:=Zhi h.net (conn:=p.conn) (j:=0) (by decide) (most:=most) m3
     obtain ⟨_,g2,g3,_,g5⟩:=ZtP st false (w.moved p.conn 0 most).1 e2 (fun e=>by cases e)
     generalize putS st false (w.moved p.conn 0 most).1=q at g2 g3 g5
     have hS:SI { w with cs:=(w.moved p.conn 0 most).2,pes:=w.pes.set i { p with rd:=some (q.2.2,q.2.1)}} (80000*n):=⟨q2,h.srv,h.grs⟩
     obtain ⟨s1,s2,s3,s4⟩:=hS.serveL (i:=i) (conn:=p.conn) (l:=q.1)
     generalize Cu.serveL { w with cs:=(w.moved p.conn 0 most).2,pes:=w.pes.set i { p with rd:=some (q.2.2,q.2.1)}} i p.conn q.1=r at s1 s2 s3 s4
     have s3:r.2.now=w.now:=s3
     have s4:r.2.cs.length=(w.moved p.conn 0 most).2.length:=s4
     have s2:r.2.pes=w.pes.set i { p with rd:=some (q.2.2,q.2.1)}:=s2
     have hb:q.2.1=false→ZbI tmo r.2 (n+1):=fun hq=>by
       refine ⟨s1.net,by rw [s4,Zhj];exact h'.csl,s1.srv,by have:=s1.grs;omega,by rw [s3];exact h.now,by rw [s2,List.length_set];exact h.few,fun k x hx=>?_⟩
       rw [s2] at hx
       rw [s3]
       rcases Zej hx with ⟨_,rfl,_⟩ | ⟨_,hx⟩
       ·exact ⟨hP.cl,hP.last,hP.tmo,fun _=>⟨q.2.2,by rw [hq],g2⟩,fun e=>(m2 e).elim,hP.up⟩
       ·exact h'.pes k x hx
     split
     ·rename_i hc
      exact hb hc.2
     ·rename_i hc
      cases hq:q.2.1 with
      | false=>exact (hb hq).cut i
      | true =>
        have hr:({ r.2 with pes:=w.pes.set i { p with rd:=some (q.2.2,false)}}:Cu).cut i=r.2.cut i:=by
          have l1:(w.pes.set i { p with rd:=some (q.2.2,false)})[i]?=some { p with rd:=some (q.2.2,false)}:=List.getElem?_set_self (Za3 hp)
          have l2:r.2.pes[i]?=some { p with rd:=some (q.2.2,q.2.1)}:=by rw [s2];exact List.getElem?_set_self (Za3 hp)
          unfold Cu.cut
          rw [l2]
          dsimp only
          rw [l1]
          dsimp only
          rw [if_neg m2,if_neg m2,s2,List.set_set,List.set_set]
        have hC:ZbI tmo ({ r.2 with pes:=w.pes.set i { p with rd:=some (q.2.2,false)}}:Cu) (n+1):=by
          refine ⟨s1.net,?_,s1.srv,?_,?_,?_,fun k x hx=>?_⟩
          ·show r.2.cs.length≤_
           rw [s4,Zhj];exact h'.csl
          ·show r.2.grs.length≤_
           have:=s1.grs;omega
          ·show 0≤r.2.now∧r.2.now≤_
           rw [s3];exact h.now
          ·show (w.pes.set i _).length≤8
           rw [List.length_set];exact h.few
          ·show ZuD tmo r.2.now x (n+1)
           rw [s3]
           have hx:(w.pes.set i { p with rd:=some (q.2.2,false)})[k]?=some x:=hx
           rcases Zej hx with ⟨_,rfl,_⟩ | ⟨_,hx⟩
           ·exact ⟨hP.cl,hP.last,hP.tmo,fun _=>⟨q.2.2,rfl,g2⟩,fun e=>(m2 e).elim,hP.up⟩
           ·exact h'.pes k x hx
        have hD:=hC.cut i
        rw [hr] at hD
        exact hD
theorem ZbI.toCl {tmo:Int} {w:Cu} {n:Nat} (h:ZbI tmo w n) (i:Nat) (most:Int):ZbI tmo (w.toClR i most).2 (n+1):=by
  unfold Cu.toClR
  have h':=h.mono (Nat.le_succ n)
  split
  ·exact h'
  ·rename_i p hp
   have hP:=h.pes i p hp
   split
   ·exact h'
   ·rename_i hm
    obtain ⟨m1,m2,m3⟩:=Zvh hm
    obtain ⟨_,q2,q3⟩:=Zhi h.net (conn:=p.conn) (j:=1) (by decide) (most:=most) m3
    have hN:ZbI tmo { w with cs:=(w.moved p.conn 1 most).2 } (n+1):=h'.nets q2 (by rw [Zhj];exact h'.csl)
    split
    ·exact hN
    ·dsimp only
     obtain ⟨k1,k2⟩:=Zt8 p.cl w.now (w.moved p.conn 1 most).1
     have hB:=hP.cl.bytes (l:=(w.moved p.conn 1 most).1) (by omega) w.now
     generalize p.cl.bytesR w.now (w.moved p.conn 1 most).1=r at k1 k2 hB
     split
     ·rename_i he
      have hr:({ w with cs:=(w.moved p.conn 1 most).2,pes:=w.pes.set i { p with cl:=r.1 }}:Cu).cut i=({ w with cs:=(St.brS (w.moved p.conn 1 most).2 [p.conn]).2,srv:=w.srv.closed p.conn,pes:=w.pes.set i ⟨if r.1.up then r.1.lostS w.now else r.1,0,none⟩}:Cu):=by
        have l1:(w.pes.set i { p with cl:=r.1 })[i]?=some { p with cl:=r.1 }:=List.getElem?_set_self (Za3 hp)
        unfold Cu.cut
        dsimp only
        rw [l1]
        dsimp only
        rw [if_neg m2,List.set_set]
      rw [hr]
      refine ((hN.nets (ZsT q2 [p.conn]) (by rw [Zot,Zhj];exact h'.csl)).srvs (h.srv.closed p.conn)).set (i:=i) (p:=⟨if r.1.up then r.1.lostS w.now else r.1,0,none⟩) ⟨?_,?_,?_,fun e=>(e rfl).elim,fun _=>rfl,fun e=>(e rfl).elim⟩
      ·show On2 (if r.1.up=true then r.1.lostS w.now else r.1) _
       split
       ·exact hB.lostS _
       ·exact hB
      ·show (if r.1.up=true then r.1.lostS w.now else r.1).last≤w.now
       split
       ·exact (ZlA r.1 w.now).2 (k1.2 hP.last)
       ·exact k1.2 hP.last
      ·show (if r.1.up=true then r.1.lostS w.now else r.1).tmo=tmo
       split
       ·exact (ZlA r.1 w.now).1.trans (k1.1.trans hP.tmo)
       ·exact k1.1.trans hP.tmo
     ·rename_i he
      have he:r.2=0:=Classical.byContradiction he
      exact (hN.set (i:=i) (p:={ p with cl:=r.1 }) ⟨hB,k1.2 hP.last,k1.1.trans hP.tmo,hP.rd,hP.no,fun e=>(k2 he).trans (hP.up e)⟩).sends i
end Go.Proofs.YtbppjmcinoffnaaGreat
namespace Go.Proofs.YtbppjmcinoffnaaGreat
open Go Go.Fw
open Nat (reduceAdd reduceLT reduceLeDiff reduceEqDiff reduceMul)
open Tk (Zu rI rB rS rP rM rL Ziv XV held1 ZaQ wrS)
def Cu.partR (w:Cu) (i:Nat):Int × Cu:=match w.pes[i]? with
  | none=>(0,w)
  | some p=>if p.cl.up=true then (0,w.cut i) else (51,w)
def Cu.stopR (w:Cu):Int × Cu:=if w.up=true then (0,w.stopB.cutK w.pes.length) else (51,w)
def Cu.tickR (w:Cu) (at_:Int):Int × Cu:=if w.tickE at_=0 then (0,Cu.tickA { w with now:=at_ }) else (w.tickE at_,w)
abbrev Res:=(Int × Bool × Int) × Cu
def res (x:Int × Cu):Res:=((0,false,x.1),x.2)
def Cu.doK (w:Cu) (o:Op):Nat→Res
  | 1=>res (w.tickR o.2.2.1)
  | 2=>w.askR o.2.1.toNat o.rq
  | 3=>res (w.dialR o.2.1.toNat)
  | 4=>res (w.toSrvR o.2.1.toNat o.2.2.2.1)
  | 5=>res (w.toClR o.2.1.toNat o.2.2.2.1)
  | 6=>res (w.partR o.2.1.toNat)
  | 7=>res w.stopR
  | _=>res w.startR
def Zhz (k:Nat):Bool:=k ==1||k ==7||k ==8
def Cu.doR (w:Cu) (o:Op):Res :=
  if o.1<1 then ((0,false,6),w) else if o.1≥9 then ((0,false,6),w) else
  if Zhz o.1.toNat=false then (if o.2.1<0 then ((0,false,2),w) else if o.2.1≥w.pes.length then ((0,false,2),w) else w.doK o o.1.toNat) else w.doK o o.1.toNat
theorem ZbI.doK {tmo:Int} {w:Cu} {n:Nat} (h:ZbI tmo w n) (hn:n≤1000) (o:Op) (k:Nat):ZbI tmo (w.doK o k).2 (n+1):=by
  have h':=h.mono (Nat.le_succ n)
  unfold Cu.doK
  split
  ·show ZbI tmo (w.tickR o.2.2.1).2 (n+1)
   unfold Cu.tickR
   split
   ·rename_i he;exact h'.tick he
   ·exact h'
  ·exact h.ask hn _ _
  ·exact h.dial _
  ·exact h.toSrv _ _
  ·exact h.toCl _ _
  ·show ZbI tmo (w.partR o.2.1.toNat).2 (n+1)
   unfold Cu.partR
   split
   ·exact h'
   ·split
    ·exact h'.cut _
    ·exact h'
  ·show ZbI tmo w.stopR.2 (n+1)
   unfold Cu.stopR
   split
   ·exact h'.stop.cutK _
   ·exact h'
  ·exact h'.start
theorem ZbI.do {tmo:Int} {w:Cu} {n:Nat} (h:ZbI tmo w n) (hn:n≤1000) (o:Op):ZbI tmo (w.doR o).2 (n+1):=by
  have h':=h.mono (Nat.le_succ n)
  unfold Cu.doR
  split
  ·exact h'
  ·split
   ·exact h'
   ·split
    ·split
     ·exact h'
     ·split
      ·exact h'
      ·exact h.doK hn o _
    ·exact h.doK hn o _
theorem rV {h:Zb} {b o:Nat} {n:Value} {K:Value→Prop} (hc:ZN o (obj h b)=some n) (hk:K n):ldV h b o K:=by rw [Zzd hc];exact hk
def dK (k:Nat):Value:= .func (.func (59+k)) #[] #[]
theorem ZfY {k:Nat}:Zv (dK k)=true:=by simp [Zv,dK]
theorem ZiI:Zv .nilFunc=true:=by simp [Zv]
theorem ZsJ {h:Zb} {k:Int} (hk0:0≤k∧k<256) {K:(Value × Bool × Unit)→Bool→Zb→Prop} (h1:k<1∨k≥9→∀ h',Ext h h'→K (.nilFunc,false,()) false h')
    (h2:∀ j:Nat,k=(j:Int)→1≤j→j≤8→∀ h',Ext h h'→K (dK j,Zhz j,()) true h'):Zbo k K h:=by
  unfold Zbo ZdZ
  refine ZaT fun h1' c1 e1 z1=>?_
  simp only [ZhV]
  refine ⟨ZfY (k:=1),ZfY (k:=2),ZfY (k:=3),ZfY (k:=4),ZfY (k:=5),ZfY (k:=6),ZfY (k:=7),ZfY (k:=8),?_⟩
  refine ZaT fun h2' c2 e2 z2=>?_
  refine ZtF (vs:=[Value.nilFunc,Value.bool false,dK 1,Value.bool true,dK 2,Value.bool false,dK 3,Value.bool false,dK 4,Value.bool false,dK 5,Value.bool false,dK 6,Value.bool false,dK 7,Value.bool true,dK 8,Value.bool true]) c2 rfl
    (by simp only [List.all_cons,List.all_nil,ZfY,ZdN,ZiI];rfl) rfl fun h4 c4 u4 z4=>?_
  have lz1:sz h1'=sz h+1:=z1
  have c14:=XG (Yf c1 e2) u4 (by show ¬ sz h=sz h1';omega)
  have e4:Ext h h4:=(e1.trans e2).then u4 fun k hk=>by rw [hk];show sz h≤sz h1';omega
  have fin:∀ (v:Value) (b:Bool) (t:Bool),Zv v=true→(∀ h',Ext h h'→K (v,b,()) t h')→sts h4 (sz h) 0 [v,Value.bool b] fun h5=>ldV h5 (sz h) 0 fun t1=>ldB h5 (sz h) (0+1) fun t6=>K (t1,t6,()) t h5:=by
    intro v b t hv hK
    refine ZtF (vs:=[v,Value.bool b]) c14 rfl (by simp only [List.all_cons,List.all_nil,hv,ZdN];rfl) rfl fun h5 c5 u5 z5=>?_
    exact rV (Zu c5 rfl) (rB (Zu c5 rfl) (hK h5 (e4.then u5 fun k hk=>by rw [hk];exact Nat.le_refl _)))
  refine Zi (fun c=>fin _ _ _ ZiI (h1 (.inl c))) (fun c=>?_)
  rw [ZR (n:=k) (by omega) (by omega)]
  refine Zi (fun c=>fin _ _ _ ZiI (h1 (.inr c))) (fun c9=>?_)
  obtain ⟨j,rfl⟩:=Int.eq_ofNat_of_zero_le hk0.1
  have hj:j=1∨j=2∨j=3∨j=4∨j=5∨j=6∨j=7∨j=8:=by omega
  refine ⟨by omega,by omega,?_⟩
  rw [Int.toNat_natCast]
  rcases hj with rfl | rfl | rfl | rfl | rfl | rfl | rfl | rfl <;>
  ·exact rV (Zu c4 rfl) (rB (Zu c4 rfl) (fin _ _ _ ZfY (h2 _ rfl (by decide) (by decide))))
section
variable {h h':Zb} {T:TT} {wb:Nat} {sp:Sl} {w:Cu}
theorem Zmz (hW:Wld h T wb sp w) {i:Int} {K:Option Addr→Zb→Prop} (h1:i<0∨i≥w.pes.length→K none h) (h2:∀ (k:Nat) (p:Pe) (b:Nat),i=(k:Int)→w.pes[k]?=some p→sp.blk=some b→K (some ⟨b,k*3,none⟩) h):YE (some ⟨wb,0,none⟩) i K h:=by
  unfold YE Zby
  obtain ⟨nb,sb,sg,pl,hR⟩:=hW
  have hl:=hR.len
  refine Zl (Zi (fun c=>h1 (.inl c)) (fun c=>Zg (rL (hR.wc (j:=3) rfl) (Zi (fun c2=>h1 (.inr (by omega))) (fun c2=>Zg (rL (hR.wc (j:=3) rfl) ?_))))))
  obtain ⟨k,rfl⟩:=Int.eq_ofNat_of_zero_le (show 0≤i by omega)
  have hlt:k<w.pes.length:=by omega
  have hp:w.pes[k]?=some w.pes[k]:=List.getElem?_eq_getElem hlt
  exact hR.idx hp rfl fun b hb=>h2 k _ b rfl hp hb
end
def fnK:Nat→Option Addr→Op→((Int × Bool × Int × Unit)→HP)→HP
  | 1=>Xr
  | 2=>XI
  | 3=>Xu
  | 4=>YJ
  | 5=>YK
  | 6=>Xt
  | 7=>Xs
  | _=>Xe
abbrev r4 (r:Int × Bool × Int):Int × Bool × Int × Unit:=(r.1,r.2.1,r.2.2,())
section
variable {h h':Zb} {T:TT} {wb:Nat} {sp:Sl} {w:Cu}
theorem Znh (hW:Wld h T wb sp w) {tmo:Int} {n:Nat} (hC:ZbI tmo w n) (hn:n≤1000) {o:Op} (hs:o.2.2.2.2.2.2.2.2.1.size<9223372036854775808) {k:Nat} (h1:1≤k) (h8:k≤8) (hcl:Zhz k=false→∃ (i:Nat) (p:Pe),o.2.1=(i:Int)∧w.pes[i]?=some p) {K:(Int × Bool × Int × Unit)→Zb→Prop}
    (hk:Zki T h wb sp (w.doK o k).2 (r4 (w.doK o k).1) K):fnK k (some ⟨wb,0,none⟩) o K h:=by
  have hway:∀ c j,c∈w.cs→j<2→(c.side j).way.length≤65536:=fun c j hc hj=>(hC.net c j hc hj).1
  have hfew:w.pes.length≤1099511627776:=by have:=hC.few;omega
  have out:∀ {c:Cl} {m:Nat},m≤1010→On2 c m→c.out.length≤1099511627776:=fun hm h=>by have:=h.out;omega
  have hj:k=1∨k=2∨k=3∨k=4∨k=5∨k=6∨k=7∨k=8:=by omega
  rcases hj with rfl | rfl | rfl | rfl | rfl | rfl | rfl | rfl
  ·have hk:Zki T h wb sp (w.tickR o.2.2.1).2 (0,false,(w.tickR o.2.2.1).1,()) K:=hk
   unfold Cu.tickR at hk
   refine Zrs hW hfew (fun i p hp=>(hC.pes i p hp).cl.w) (fun e=>?_) (fun e=>?_)
   ·rw [if_neg e] at hk;exact hk
   ·rw [if_pos e] at hk;exact hk
  ·obtain ⟨i,p,hi,hp⟩:=hcl rfl
   have hP:=(hC.pes i p hp).cl
   have hA:=hP.ask hn w.now o.rq
   have e:o.2.1.toNat=i:=by rw [hi];rfl
   have hk:Zki T h wb sp (w.askR o.2.1.toNat o.rq).2 (r4 (w.askR o.2.1.toNat o.rq).1) K:=hk
   rw [e] at hk
   exact Zuw hW hi hp hP.w ⟨hA.w,hA.nk⟩ (by have:=hP.next;omega) (out (by omega) hP) (out (by omega) hA) hs hway hk
  ·obtain ⟨i,p,hi,hp⟩:=hcl rfl
   have hPe:=hC.pes i p hp
   have hP:=hPe.cl
   have hA:=hP.atS w.now
   have hU:=hA.upS w.now
   have e:o.2.1.toNat=i:=by rw [hi];rfl
   have hk:Zki T h wb sp (w.dialR o.2.1.toNat).2 (0,false,(w.dialR o.2.1.toNat).1,()) K:=hk
   rw [e] at hk
   exact ZsH hW hi hp ⟨hP.w,hP.nk⟩ ⟨hA.w,hA.nk⟩ ⟨hU.w,hU.nk⟩ (out (by omega) hA) (out (by omega) hU) (fun hu=>hPe.no (Classical.byContradiction fun h9=>by rw [hPe.up h9] at hu;cases hu)) (by have:=hC.csl;omega) (fun c j hc hj=>(hC.conn1.net c j hc hj).1) hk
  ·obtain ⟨i,p,hi,hp⟩:=hcl rfl
   have hPe:=hC.pes i p hp
   have hP:=hPe.cl
   have e:o.2.1.toNat=i:=by rw [hi];rfl
   have hk:Zki T h wb sp (w.toSrvR o.2.1.toNat o.2.2.2.1).2 (0,false,(w.toSrvR o.2.1.toNat o.2.2.2.1).1,()) K:=hk
   rw [e] at hk
   exact Zpw hW (n:=80000*n) ⟨hC.net,hC.srv,hC.grs⟩ (by omega) hi hp ⟨hP.w,hP.nk⟩ (fun hc=>by
     obtain ⟨st,e1,e2⟩:=hPe.rd hc
     exact ⟨st,false,e1,e2⟩) hk
  ·obtain ⟨i,p,hi,hp⟩:=hcl rfl
   have hPe:=hC.pes i p hp
   have hP:=hPe.cl
   have e:o.2.1.toNat=i:=by rw [hi];rfl
   have hk:Zki T h wb sp (w.toClR o.2.1.toNat o.2.2.2.1).2 (0,false,(w.toClR o.2.1.toNat o.2.2.2.1).1,()) K:=hk
   rw [e] at hk
   exact Zrr hW hC.net hi hp ⟨hP.w,hP.nk⟩ hP.br (by have:=hP.rb;omega) (fun l hl=>by
     have hB:=hP.bytes (l:=l) (by omega) w.now
     exact ⟨⟨hB.w,hB.nk⟩,out (by omega) hB⟩) hk
  ·obtain ⟨i,p,hi,hp⟩:=hcl rfl
   have hPe:=hC.pes i p hp
   have hP:=hPe.cl
   have e:o.2.1.toNat=i:=by rw [hi];rfl
   have hk:Zki T h wb sp (w.partR o.2.1.toNat).2 (0,false,(w.partR o.2.1.toNat).1,()) K:=hk
   rw [e] at hk
   unfold Cu.partR at hk
   rw [hp] at hk
   dsimp only at hk
   refine ZrU hW hi hp ⟨hP.w,hP.nk⟩ (fun e=>?_) (fun e=>?_)
   ·rw [if_neg (by rw [e];exact fun e=>by cases e)] at hk;exact hk
   ·rw [if_pos e] at hk;exact hk
  ·have hk:Zki T h wb sp w.stopR.2 (0,false,w.stopR.1,()) K:=hk
   unfold Cu.stopR at hk
   refine ZrC hW hfew (fun i p hp=>⟨(hC.pes i p hp).cl.w,(hC.pes i p hp).cl.nk⟩) (fun e=>?_) (fun e=>?_)
   ·rw [if_neg (by rw [e];exact fun e=>by cases e)] at hk;exact hk
   ·rw [if_pos e] at hk;exact hk
  ·exact ZpB hW hC.srv.ok hk
theorem ZsG (hW:Wld h T wb sp w) {tmo:Int} {n:Nat} (hC:ZbI tmo w n) (hn:n≤1000) {o:Op} (ho:0≤o.1∧o.1<256) (hs:o.2.2.2.2.2.2.2.2.1.size<9223372036854775808) {K:Int→Bool→Int→Zb→Prop}
    (hk:∀ h' T',Wld h' T' wb sp (w.doR o).2→Zav T T' h h'→K (w.doR o).1.1 (w.doR o).1.2.1 (w.doR o).1.2.2 h'):YC (some ⟨wb,0,none⟩) o K h:=by
  unfold YC Zcq
  unfold Cu.doR at hk
  refine ZaT fun h1 c1 e1 z1=>Za (Za (Zl (rI (Zu c1 rfl) ?_)))
  have z1:sz h1=sz h+1:=z1
  refine ZsJ ho (fun c h8 e8=>ZaT fun h10 c10 e10 z10=>ZtF (vs:=[.nilFunc,.bool false]) c10 rfl (by simp only [List.all_cons,List.all_nil,ZiI,ZdN];rfl) rfl fun h11 c11 u11 z11=>?_)
    (fun k ek k1 k8 h8 e8=>ZaT fun h10 c10 e10 z10=>ZtF (vs:=[dK k,.bool (Zhz k)]) c10 rfl (by simp only [List.all_cons,List.all_nil,ZfY,ZdN];rfl) rfl fun h11 c11 u11 z11=>?_)
  ·have e11:Ext h h11:=((e1.trans e8).trans e10).then u11 fun k hk=>by rw [hk];exact (e1.trans e8).size
   rw [YM]
   refine Zpc (J:=fun _ _=>False) (fun _ _ hf=>hf.elim) fun Q hQ=>?_
   rw [YM]
   refine ZJ (Za (Za ?_))
   have hr:(if o.1<1 then ((0,false,6),w) else if o.1≥9 then ((0,false,6),w) else
       if Zhz o.1.toNat=false then (if o.2.1<0 then ((0,false,2),w) else if o.2.1≥w.pes.length then ((0,false,2),w) else w.doK o o.1.toNat) else w.doK o o.1.toNat:Res)=((0,false,6),w):=by
     rcases c with c | c
     ·rw [if_pos c]
     ·rw [if_neg (by omega),if_pos c]
   rw [hr] at hk
   exact hk h11 T (hW.ext e11) ((Zav.refl T h).ext e11)
  have z8:sz h1≤sz h8:=e8.size
  have e11:Ext h h11:=((e1.trans e8).trans e10).then u11 fun k hk=>by rw [hk];exact (e1.trans e8).size
  have hW11:=hW.ext e11
  have b1:obj h11 (sz h)=_:=XG (Yf (Yf c1 e8) e10) u11 (by show ¬ sz h=sz h8;omega)
  have n0:T (sz h)=none:=hW.no (Nat.le_refl _)
  have n9:T (sz h8)=none:=hW.no (by omega)
  have ek2:o.1.toNat=k:=by rw [ek];rfl
  rw [ek2,if_neg (show ¬ o.1<1 by omega),if_neg (show ¬ o.1≥9 by omega)] at hk
  rw [YM]
  refine Zpc (J:=fun _ hh=>hh=h11∧(Zhz k=false→∃ (i:Nat) (p:Pe),o.2.1=(i:Int)∧w.pes[i]?=some p)∧∀ h' T',Wld h' T' wb sp (w.doK o k).2→Zav T T' h h'→K (w.doK o k).1.1 (w.doK o k).1.2.1 (w.doK o k).1.2.2 h') ?_ ?_
  ·rintro _ h11 ⟨rfl,hcl,hk⟩
   refine Zpc (J:=fun s hh=>∃ T' b',s=(some ⟨b',0,none⟩,())∧(∃ t,obj hh b'=some (.cells [iv (w.doK o k).1.1,.bool (w.doK o k).1.2.1,iv (w.doK o k).1.2.2].toArray t (0,0)))∧Wld hh T' wb sp (w.doK o k).2∧Zav T T' h hh) ?_ ?_
   ·rintro _ h50 ⟨T',b',rfl,⟨t,cb⟩,hW5,s5⟩
    exact Zg (rI (Zu cb rfl) (Zg (rB (Zu cb rfl) (Zg (rI (Zu cb rfl) (Za (by rw [YM];exact Za (hk h50 T' hW5 s5))))))))
   ·intro Q hQ
    refine Zg (rV (Zu c11 rfl) ?_)
    refine rI (Zu b1 rfl) (rI (Zu b1 rfl) (rI (Zu b1 rfl) (rI (Zu b1 rfl) (rI (Zu b1 rfl) (rI (Zu b1 rfl) (rI (Zu b1 rfl) (rI (Zu b1 rfl) (rS (Zu b1 rfl) (rI (Zu b1 rfl) ?_)))))))))
    rw [ZlR]
    refine ⟨?_,?_⟩
    ·have hA:=Znh hW11 hC hn (o:=o) hs k1 k8 hcl (K:=fun t39 h38=>newC h38 [Value.int .i64 0,Value.bool false,Value.int .i64 0] 100 fun b40 h41=>sts h41 b40 0 [Value.int .i64 t39.1,Value.bool t39.2.1,Value.int .i64 t39.2.2.1] fun h42=>Q (some ⟨b40,0,none⟩,()) h42) (fun h38 T38 hW38 s38=>by
       refine ZaT fun h41 c41 e41 z41=>Zz7 c41 rfl Y4 ZdN Y4 fun h42 c42 u42 z42=>?_
       have n38:T38 (sz h38)=none:=hW38.no (Nat.le_refl _)
       exact hQ _ _ ⟨T38,sz h38,rfl,⟨_,c42⟩,(hW38.ext e41).upd u42 fun k hk=>by rw [hk];exact n38,((Zav.pre e11 s38).ext e41).also u42 fun k hk=>by rw [hk];exact Nat.le_trans e11.size s38.upd.size⟩)
     have hj:k=1∨k=2∨k=3∨k=4∨k=5∨k=6∨k=7∨k=8:=by omega
     rcases hj with rfl | rfl | rfl | rfl | rfl | rfl | rfl | rfl
     ·exact .inl ⟨rfl,hA⟩
     ·exact .inr (.inl ⟨rfl,hA⟩)
     ·exact .inr (.inr (.inl ⟨rfl,hA⟩))
     ·exact .inr (.inr (.inr (.inl ⟨rfl,hA⟩)))
     ·exact .inr (.inr (.inr (.inr (.inl ⟨rfl,hA⟩))))
     ·exact .inr (.inr (.inr (.inr (.inr (.inl ⟨rfl,hA⟩)))))
     ·exact .inr (.inr (.inr (.inr (.inr (.inr (.inl ⟨rfl,hA⟩))))))
     ·exact .inr (.inr (.inr (.inr (.inr (.inr (.inr (.inl ⟨rfl,hA⟩)))))))
    ·refine ZaT fun h44 c44 e44 z44=>?_
     have b1':=Yf b1 e44
     have c11':=Yf c11 e44
     have hW44:=hW11.ext e44
     have n11:T (sz h11)=none:=hW11.no (Nat.le_refl _)
     simp only [ZhV,Zbp,Zdj]
     refine ⟨⟨Zu b1' rfl,Zu b1' rfl,Zu b1' rfl,Zu b1' rfl,Zu b1' rfl,Zu b1' rfl,Zu b1' rfl,Zu b1' rfl,Zu b1' rfl,Zu b1' rfl,trivial⟩,⟨Zu c11' rfl,trivial⟩,?_⟩
     have hB:=Znh hW44 hC hn (o:=o) hs k1 k8 hcl (K:=fun t46 h45=>sts h45 (sz h11) 0 [Value.int .i64 t46.1,Value.bool t46.2.1,Value.int .i64 t46.2.2.1] fun h47=>Q (some ⟨sz h11,0,none⟩,()) h47) (fun h45 T45 hW45 s45=>by
       have c45:=s45.keep c44 n11
       have n45:=s45.none_ n11 (ZT c44)
       refine Zz7 c45 rfl Y4 ZdN Y4 fun h47 c47 u47 z47=>?_
       exact hQ _ _ ⟨T45,sz h11,rfl,⟨_,c47⟩,hW45.upd u47 fun k hk=>by rw [hk];exact n45,(Zav.pre (e11.trans e44) s45).also u47 fun k hk=>by rw [hk];exact e11.size⟩)
     have hj:k=1∨k=2∨k=3∨k=4∨k=5∨k=6∨k=7∨k=8:=by omega
     rcases hj with rfl | rfl | rfl | rfl | rfl | rfl | rfl | rfl
     ·exact .inl ⟨rfl,hB⟩
     ·exact .inr (.inl ⟨rfl,hB⟩)
     ·exact .inr (.inr (.inl ⟨rfl,hB⟩))
     ·exact .inr (.inr (.inr (.inl ⟨rfl,hB⟩)))
     ·exact .inr (.inr (.inr (.inr (.inl ⟨rfl,hB⟩))))
     ·exact .inr (.inr (.inr (.inr (.inr (.inl ⟨rfl,hB⟩)))))
     ·exact .inr (.inr (.inr (.inr (.inr (.inr (.inl ⟨rfl,hB⟩))))))
     ·exact .inr (.inr (.inr (.inr (.inr (.inr (.inr (.inl ⟨rfl,hB⟩)))))))
  ·intro Q hQ
   rw [YM]
   refine Zl (rB (Zu c11 rfl) ⟨fun c=>rI (Zu b1 rfl) ?_,fun c=>?_⟩)
   ·have c:Zhz k=false:=by simpa using c
    rw [if_pos c] at hk
    refine Zmz hW11 (fun e=>?_) (fun i p b hi hp hb=>?_)
    ·rw [YM]
     refine ZJ (Za (Za ?_))
     have hr:(if o.2.1<0 then ((0,false,2),w) else if o.2.1≥w.pes.length then ((0,false,2),w) else w.doK o k:Res)=((0,false,2),w):=by
       rcases e with c | c
       ·rw [if_pos c]
       ·rw [if_neg (by omega),if_pos c]
     rw [hr] at hk
     exact hk h11 T hW11 ((Zav.refl T h).ext e11)
    ·rw [YM]
     have hlt:=Za3 hp
     rw [if_neg (by omega),if_neg (by omega)] at hk
     exact Zl (hQ () h11 ⟨rfl,fun _=>⟨i,p,hi,hp⟩,hk⟩)
   ·have c:¬ Zhz k=false:=by simpa using c
    rw [if_neg c] at hk
    exact hQ () h11 ⟨rfl,fun e=>(c e).elim,hk⟩
end
end Go.Proofs.YtbppjmcinoffnaaGreat
