/- The cluster: New and Load. -/
import Derived.KernelRfl
import Derived.Test.YtbppjmcinoffnaaGreatPa16
set_option linter.unusedVariables false
set_option linter.unusedSimpArgs false
namespace Go.Proofs.YtbppjmcinoffnaaGreat
open Go Go.Fw
open Nat (reduceAdd reduceLT reduceLeDiff reduceEqDiff reduceMul)
open Tk (Zn rI rB rS rP rM rL Ziw X2 held1 ZbH wrS nA)
abbrev nPm (cb:Nat) (c:Cl):Pm:=(cb,0,⟨c,0,none⟩)
def Zts (Tn Ts:Nat→Option Nat) (wb:Nat):TT:=fun k=>match Tn k with
  | some t=>some (1,t)
  | none=>match Ts k with
    | some t=>some (2,t)
    | none=>if k=wb then some (0,0) else none
theorem ZuX {Tn Ts:Nat→Option Nat} {wb k t:Nat} (h:Tn k=some t):Zts Tn Ts wb k=some (1,t):=by unfold Zts;rw [h]
theorem ZuW {Tn Ts:Nat→Option Nat} {wb k t:Nat} (h:Tn k=none) (h2:Ts k=some t):Zts Tn Ts wb k=some (2,t):=by unfold Zts;rw [h,h2]
theorem ZiW {Tn Ts:Nat→Option Nat} {wb k:Nat} (h:Tn k=none) (h2:Ts k=none):Zts Tn Ts wb k=if k=wb then some (0,0) else none:=by unfold Zts;rw [h,h2]
def Zz5 (tmo least most:Int) (at_:Int):Pe:=⟨(Zh0 tmo least most nA).atS at_,0,none⟩
def ZjY (at_ tmo least most:Int) (k:Nat):Cu:=⟨St.liP (fun _=>false) [1],[],Tk.Zm8 at_,true,List.replicate k (Zz5 tmo least most at_),at_,[]⟩
def Zmh (at_ clients tmo least most:Int):Int:=if at_<0 then 2 else if at_>1152921504606846976 then 2 else if clients<1 then 2 else if clients>8 then 2 else Zjc tmo least most nA
section
variable {h h':Zb} {T:TT} {wb nb sb:Nat} {sp sg:Sl} {pl:List Pm} {w:Cu}
theorem WR.tagC (hR:WR h T wb nb sb sp sg pl w) (e:Ext h h') {Tc:Nat→Option Nat} {cb:Nat} {c:Cl} (hC:Client h' Tc cb c) (hT:∀ k,Tc k≠none→sz h≤k) :
    WR h' (cmb (3+2*pl.length) T Tc) wb nb sb sp sg pl w∧ZaI T (cmb (3+2*pl.length) T Tc) h h' :=
  hR.part (by omega) ⟨e.upd _,fun k hk=> .inr (hT k hk)⟩ hC.lt (w':=w) rfl rfl rfl rfl hR.pes (.inr ⟨by omega,rfl,rfl⟩) (.inr ⟨by omega,rfl⟩) (fun i x hx=> .inr ⟨by have:=Zbv hx;omega,x,hx,rfl,rfl⟩) fun i x l br hx hr=> .inr ⟨by omega,x,hx,rfl,hr⟩
theorem WR.addP (hR:WR h T wb nb sb sp sg pl w) {cb:Nat} {c:Cl} (hC:Client h (prj (3+2*pl.length) T) cb c) {s':Sl} (ho:Own h' 0 s' 3 ((pl++[nPm cb c]).flatMap peL)) (hu:Upd (fun k=>sp.blk=some k) h h') (hb:s'.blk=sp.blk∨s'.blk=some h.size) {K:Zb→Prop}
    (hk:∀ h2 T',WR h2 T' wb nb sb s' sg (pl++[nPm cb c]) { w with pes:=w.pes++[⟨c,0,none⟩]}→ZaI T T' h h2→K h2):st h' wb 3 (slV s') K:=by
  have hw:¬ sp.blk=some wb:=fun e=>by
    have:=hR.tsp wb e
    rw [hR.twb] at this
    cases this
  have c1:=XI hR.cells hu hw
  refine Ziw c1 (by decide:3<6) ZgP fun h2 c2 u2 z2=>?_
  have lo:∀ k,s'.blk=some k→T k=some (0,1)∨h.size≤k:=fun k hk=>by
    rcases hb with e | e
    ·rw [e] at hk;exact .inl (hR.tsp k hk)
    ·rw [e] at hk;cases hk;exact .inr (Nat.le_refl _)
  have hu2:Upd (fun k=>∃ t,T k=some (0,t)) h h2:=Upd.then (hu.mono fun k _ hk=>⟨1,hR.tsp k hk⟩) u2 fun k _ hk=>⟨0,by rw [hk];exact hR.twb⟩
  have z2':sz h2=sz h':=z2
  have hT:∀ k,T k≠none→(if s'.blk=some k then some (0,1) else T k)=T k:=fun k hk=>by
    split
    ·rename_i e
     rcases lo k e with h1 | h1
     ·exact h1.symm
     ·exact (hk (hR.no h1)).elim
    ·rfl
  have hsg:∀ b,sg.blk=some b→h2[b]?=h[b]?:=fun b hb'=>by
    have tb:=hR.tsg b hb'
    have hl:b<sz h:=hR.lt b (by rw [tb];exact fun e=>by cases e)
    have n1:b≠wb:=fun e=>by rw [e,hR.twb] at tb;cases tb
    have n2:¬ sp.blk=some b:=fun e=>by rw [hR.tsp b e] at tb;cases tb
    exact (u2.old b (Nat.lt_of_lt_of_le hl hu.size) n1).trans (hu.old b hl n2)
  obtain ⟨h3,h4⟩:=hR.zero hu2 (T':=fun k=>if s'.blk=some k then some (0,1) else T k) hT (fun k hk=>by
      by_cases e:s'.blk=some k
      ·rcases lo k e with h1 | h1
       ·exact .inl (by rw [h1];exact fun e=>by cases e)
       ·exact .inr ⟨h1,(by rw [z2'];exact (ho.lt e).2),1,if_pos e⟩
      ·rw [if_neg e] at hk;exact .inl hk) (sp':=s') (sg':=sg) (pl':=pl++[nPm cb c]) (w':={ w with pes:=w.pes++[⟨c,0,none⟩]}) c2
    (ho.congr fun b hb' _ _=>u2.old b (ho.lt hb').2 fun e=>by
      rcases lo b hb' with h1 | h1
      ·rw [e,hR.twb] at h1;cases h1
      ·have:=hR.lt wb (by rw [hR.twb];exact fun e=>by cases e)
       rw [e] at h1
       have h1:sz h≤wb:=h1
       omega) (hR.grs.congr fun b hb' _ _=>hsg b hb') (fun k hk=>if_pos hk) (fun k hk=>(hT k (by rw [hR.tsg k hk];exact fun e=>by cases e)).trans (hR.tsg k hk)) (by rw [List.map_append,hR.pes];rfl) rfl rfl rfl
    (fun i x hx=>by
      rcases Nat.lt_or_ge i pl.length with hl | hl
      ·rw [List.getElem?_append_left hl] at hx
       exact hR.cls i x hx
      ·rw [List.getElem?_append_right hl] at hx
       have:i - pl.length=0:=by
         have:=Zbv hx
         simp only [List.length_cons,List.length_nil] at this
         omega
       rw [this] at hx
       cases Option.some.inj hx
       have e:i=pl.length:=by omega
       rw [e];exact hC)
    (fun i x l br hx hr=>by
      rcases Nat.lt_or_ge i pl.length with hl | hl
      ·rw [List.getElem?_append_left hl] at hx
       exact hR.rds i x l br hx hr
      ·rw [List.getElem?_append_right hl] at hx
       have:i - pl.length=0:=by
         have:=Zbv hx
         simp only [List.length_cons,List.length_nil] at this
         omega
       rw [this] at hx
       cases Option.some.inj hx
       cases hr)
  exact hk h2 _ h3 h4
theorem WR.none0 {hs hn h':Zb} {Ts Tn:Nat→Option Nat} {S:Tk.Srv} {ps:Int→Bool} {cs:List St.Cn} (h1:Tk.Server hs Ts sb S) (h2:St.Net hn Tn nb ps cs) (e1:Ext hs hn) (hTn:∀ k,Tn k≠none→sz hs≤k) (e2:Ext hn h') {now:Int} (hc:obj h' (sz hn)=some (.cells [.pointer (some ⟨nb,0,none⟩),.pointer (some ⟨sb,0,none⟩),.bool true,slV ⟨none,0,0⟩,iv now,slV ⟨none,0,0⟩].toArray 82 (0,0))) :
    ∃ T,WR h' T (sz hn) nb sb ⟨none,0,0⟩ ⟨none,0,0⟩ [] ⟨ps,cs,S,true,[],now,[]⟩∧∀ k,T k≠none→Tn k≠none∨Ts k≠none∨k=sz hn:=by
  have ls:=ZyM h1
  have ln:=h2.lt
  have p1:prj 1 (Zts Tn Ts (sz hn))=Tn:=by
    funext k
    cases hk:Tn k with
    | some t=>exact Zoz (ZuX hk)
    | none =>
      cases hk2:Ts k with
      | some t=>exact ZcT (ZuW hk hk2) (by decide)
      | none =>
        by_cases e:k=sz hn
        ·exact ZcT ((ZiW hk hk2).trans (if_pos e)) (by decide)
        ·exact Zbb ((ZiW hk hk2).trans (if_neg e))
  have p2:prj 2 (Zts Tn Ts (sz hn))=Ts:=by
    funext k
    cases hk:Tn k with
    | some t =>
      have l1:=hTn k (by rw [hk];exact fun e=>by cases e)
      cases hk2:Ts k with
      | none=>exact ZcT (ZuX hk) (by decide)
      | some u =>
        have:=ls k (by rw [hk2];exact fun e=>by cases e)
        omega
    | none =>
      cases hk2:Ts k with
      | some t=>exact Zoz (ZuW hk hk2)
      | none =>
        by_cases e:k=sz hn
        ·exact ZcT ((ZiW hk hk2).trans (if_pos e)) (by decide)
        ·exact Zbb ((ZiW hk hk2).trans (if_neg e))
  refine ⟨Zts Tn Ts (sz hn),⟨hc,Own.nil h' 0 3,Own.nil h' 0 9,by rw [p1];exact h2.ext e2,by rw [p2];exact Tk.ZuY (Tk.ZuY h1 e1) e2,rfl,(fun i x hx=>by cases hx),(fun i x l br hx=>by cases hx),?_,(fun k hk=>by cases hk),(fun k hk=>by cases hk),fun k hk=>?_⟩,fun k hk=>?_⟩
  ·have a:Tn (sz hn)=none:=Classical.byContradiction fun e=>by
     have h9:sz hn<sz hn:=ln _ e
     omega
   have b:Ts (sz hn)=none:=Classical.byContradiction fun e=>by
     have h9:=ls _ e
     have:=e1.size
     have h8:sz hs≤sz hn:=this
     omega
   exact (ZiW a b).trans (if_pos rfl)
  ·have z1:sz hs≤sz hn:=e1.size
   have z2:sz hn≤sz h':=e2.size
   have z3:=ZV hc
   cases hk1:Tn k with
   | some t =>
     have h9:k<sz hn:=ln k (by rw [hk1];exact fun e=>by cases e)
     omega
   | none =>
     cases hk2:Ts k with
     | some t =>
       have h9:=ls k (by rw [hk2];exact fun e=>by cases e)
       omega
     | none =>
       rw [ZiW hk1 hk2] at hk
       by_cases e:k=sz hn
       ·omega
       ·rw [if_neg e] at hk;exact (hk rfl).elim
  ·cases hk1:Tn k with
   | some t=>exact .inl fun e=>by cases e
   | none =>
     cases hk2:Ts k with
     | some t=>exact .inr (.inl fun e=>by cases e)
     | none =>
       rw [ZiW hk1 hk2] at hk
       by_cases e:k=sz hn
       ·exact .inr (.inr e)
       ·rw [if_neg e] at hk;exact (hk rfl).elim
end
theorem ZtB {α:Type} (k:Nat) (a:α):List.replicate k a++[a]=List.replicate (k+1) a:=by rw [List.replicate_succ']
theorem ZsY {h:Zb} {at_ clients tmo least most:Int} {K:Option Addr→Int→Zb→Prop} (h1:Zmh at_ clients tmo least most≠0→∀ h',Ext h h'→K none (Zmh at_ clients tmo least most) h')
    (h2:Zmh at_ clients tmo least most=0→∀ h' T wb sp,Wld h' T wb sp (ZjY at_ tmo least most clients.toNat)→Ext h h'→(∀ k,T k≠none→sz h≤k)→K (some ⟨wb,0,none⟩) 0 h'):ZdD at_ clients (tmo,least,most,()) K h:=by
  unfold ZdD ZfN
  unfold Zmh at h1 h2
  refine ZaL fun ha ca ea za=>Za ?_
  have za:sz ha=sz h+1:=za
  refine Zl (fun c=>Za ?_) (fun c1=>?_)
  ·rw [if_pos c] at h1;exact h1 (by decide) ha ea
  rw [if_neg c1] at h1 h2
  refine Zl (fun c=>Za ?_) (fun c2=>?_)
  ·rw [if_pos c] at h1;exact h1 (by decide) ha ea
  rw [if_neg c2] at h1 h2
  refine Zl (fun c=>Za ?_) (fun c3=>?_)
  ·rw [if_pos c] at h1;exact h1 (by decide) ha ea
  rw [if_neg c3] at h1 h2
  refine Zl (fun c=>Za ?_) (fun c4=>?_)
  ·rw [if_pos c] at h1;exact h1 (by decide) ha ea
  rw [if_neg c4] at h1 h2
  refine Tk.ZsL (fun e=>(e ⟨by omega,by omega⟩).elim) fun _ hb Tb sb hSb eb lb=>Za ?_
  refine St.ZlB fun hc Tc hNc ec lc=>?_
  refine ZaL fun hd cd ed zd=>?_
  have leb:sz ha≤sz hb:=eb.size
  have lec:sz hb≤sz hc:=ec.size
  obtain ⟨T0,hR0,t0⟩:=WR.none0 hSb hNc ec lc ed cd
  have led:sz hc≤sz hd:=ed.size
  have low0:∀ k,T0 k≠none→sz ha≤k:=fun k hk=>by
    rcases t0 k hk with q | q | q
    ·have h9:sz hb≤k:=lc k q;omega
    ·exact lb k q
    ·omega
  refine rP (hR0.wc (j:=0) rfl) (ZaL fun he ce ee ze=>?_)
  have hRe:=hR0.ext ee
  refine St.ZjL hRe.net (St.Zja ce) (fun k hk=>Zbb (hR0.no (by cases hk;exact Nat.le_refl _))) fun hf hNf sf=>?_
  obtain ⟨hRf,sf⟩:=hRe.netS sf hNf
  have low1:∀ k,cmb 1 T0 (prj 1 T0) k≠none→sz ha≤k:=fun k hk=>by
    rcases sf.new k hk with q | q
    ·exact low0 k q
    ·have h9:sz he≤k:=q
     have h8:sz hd≤sz he:=ee.size
     omega
  have e0f:Ext ha hf:=(((eb.trans ec).trans ed).trans ee).then sf.upd fun k hk=>low0 k hk
  have caf:=Yg ca e0f
  have cl8:(clients.toNat:Int)=clients:=by omega
  refine Zei (I:=fun s hh=>∃ (k:Nat) (T:TT) (sp':Sl) (pl:List Pm),s=((k:Int),())∧(k:Int)≤clients∧(k≠0→Zjc tmo least most nA=0)∧pl.length=k∧WR hh T (sz hc) _ sb sp' ⟨none,0,0⟩ pl (ZjY at_ tmo least most k)∧Ext ha hh∧∀ j,T j≠none→sz ha≤j) (fun s _=>(clients - s.1).toNat)
    ⟨0,_,⟨none,0,0⟩,[],rfl,by omega,fun e=>(e rfl).elim,rfl,hRf,e0f,low1⟩ ?_
  rintro _ hg ⟨k,T,sp',pl,rfl,hkc,hne,hpl,hR,eg,low⟩ Q hQ
  dsimp only
  have cag:=Yg ca eg
  refine Zl (fun c=>?_) (fun c=>Za ?_)
  ·refine rI (Zn cag rfl) (rI (Zn cag rfl) (rI (Zn cag rfl) ?_))
   refine ZlB (by decide) (fun e hh eh=>Za (Zbf (fun _=>Za ?_) (fun e2=>(e e2).elim))) fun e hh Th cb hCh eh lh=>Za (Zbf (fun e2=>(e2 rfl).elim) fun _=>?_)
   ·exact h1 e hh ((ea.trans eg).trans eh)
   ·have W0:WOK (Zh0 tmo least most nA):=WOK.new
    refine ZmX hCh W0 fun hi Ti hCi si=>?_
    have ei:Ext hg hi:=eh.then si.upd fun j hj=>lh j hj
    have li:∀ j,Ti j≠none→sz hg≤j:=fun j hj=>by
      rcases si.new j hj with q | q
      ·exact lh j q
      ·have h9:sz hh≤j:=q
       have h8:sz hg≤sz hh:=eh.size
       omega
    obtain ⟨hRi,s2⟩:=hR.tagC ei hCi li
    refine rL (hRi.wc (j:=3) rfl) (ZaL fun hj cj ej zj=>?_)
    have hRj:=hRi.ext ej
    have hCj:=hCi.ext ej
    refine (ZyU (n:=3) (l:=peL (cb,0,⟨(Zh0 tmo least most nA).atS at_,0,none⟩)) cj rfl).rd ?_
    have hspl:=hRj.len
    have hpe:(ZjY at_ tmo least most k).pes.length=k:=List.length_replicate
    rw [hpe] at hspl
    refine Own.app hRj.row rfl (by simp only [peL,rdA,List.all_cons,List.all_nil,YP,ZhZ];rfl) rfl (by omega) (by omega) (Nat.zero_le _) fun s' hk ho' hl' hu' hblk=>?_
    refine hRj.addP (c:=(Zh0 tmo least most nA).atS at_) (by rw [ZhV];exact hCj) (by rw [List.flatMap_append,List.flatMap_cons,List.flatMap_nil,List.append_nil];exact ho') hu' hblk fun hl Tl hRl sl=>?_
    have st:=(s2.ext ej).trans sl
    have ekk:IntKind.wrap .i64 ((k:Int)+1)=((k+1:Nat):Int):=wrS (n:=8) (by omega) (by decide)
    have hRl':WR hl Tl (sz hc) (Array.size hb+1) sb s' ⟨none,0,0⟩ (pl++[nPm cb ((Zh0 tmo least most nA).atS at_)]) (ZjY at_ tmo least most (k+1)):=by
      have e:({ ZjY at_ tmo least most k with pes:=(ZjY at_ tmo least most k).pes++[⟨(Zh0 tmo least most nA).atS at_,0,none⟩]}:Cu)=ZjY at_ tmo least most (k+1):=by unfold ZjY;simp only [Zz5];rw [ZtB]
      rw [← e];exact hRl
    rw [ekk]
    refine hQ _ _ ⟨k+1,Tl,s',_,rfl,by omega,fun _=>e,by rw [List.length_append,hpl];rfl,hRl',eg.then st.upd fun j hj=>low j hj,fun j hj=>?_⟩ (by dsimp only;omega)
    rcases st.new j hj with q | q
    ·exact low j q
    ·have h9:sz hg≤j:=q
     have h8:sz ha≤sz hg:=eg.size
     omega
  ·have ek:k=clients.toNat:=by omega
   rw [hne (by omega)] at h2
   rw [← ek] at h2
   exact h2 rfl hg T (sz hc) sp' ⟨_,sb,_,pl,hR⟩ (ea.trans eg) fun j hj=>by have:=low j hj;omega
end Go.Proofs.YtbppjmcinoffnaaGreat
namespace Go.Proofs.YtbppjmcinoffnaaGreat
open Go Go.Fw
open Nat (reduceAdd reduceLT reduceLeDiff reduceEqDiff reduceMul)
open Tk (Zn rI rB rS rP rM rL Ziw X2 held1 ZbH wrS nA F4 f4L Xl Zfu)
theorem Zwu {tmo least most:Int} (h:Zjc tmo least most nA=0):On2 (Zh0 tmo least most nA) 0 :=
  ⟨WOK.new,NOK.new h,rfl,List.Pairwise.nil,Int.le_refl _,Nat.zero_le _,Nat.zero_le _,Nat.zero_le _⟩
theorem Zpx {at_ clients tmo least most:Int} (h:Zmh at_ clients tmo least most=0):(0≤at_∧at_≤1152921504606846976)∧(1≤clients∧clients≤8)∧Zjc tmo least most nA=0:=by
  unfold Zmh at h
  split at h
  ·cases h
  ·split at h
   ·cases h
   ·split at h
    ·cases h
    ·split at h
     ·cases h
     ·exact ⟨by omega,by omega,h⟩
theorem SOK.new (at_:Int):SOK (Tk.Zm8 at_):=⟨Nat.zero_le _,fun x hx=>by cases hx⟩
theorem Zck.new {at_ clients tmo least most:Int} (h:Zmh at_ clients tmo least most=0):Zck tmo (ZjY at_ tmo least most clients.toNat) 0:=by
  obtain ⟨h1,h2,h3⟩:=Zpx h
  refine ⟨(fun c j hc=>by cases hc),Nat.zero_le _,SOK.new at_,Nat.zero_le _,h1,?_,fun i p hp=>?_⟩
  ·show (List.replicate clients.toNat _).length≤8
   rw [List.length_replicate];omega
  ·have hp:(List.replicate clients.toNat (Zz5 tmo least most at_))[i]?=some p:=hp
   have:p=Zz5 tmo least most at_:=List.eq_of_mem_replicate (List.mem_of_getElem? hp)
   subst this
   exact ⟨(Zwu h3).atS at_,(Zmv _ _).2 h1.1,(Zmv _ _).1,fun e=>(e rfl).elim,fun _=>rfl,fun e=>(e rfl).elim⟩
theorem SOK.loaded {at_:Int} {fl:List F4} (hl:Zfu (Tk.Zm8 at_) nA fl):SOK ((Tk.Zm8 at_).loaded nA fl):=by
  obtain ⟨hn,hr,⟨nd,_⟩,_⟩:=hl
  have hcs:=Tk.ZpH fl { Tk.Zm8 at_ with spaces:=(Tk.Zm8 at_).spaces++[(nA,fl)]} nd (fun f hf=>rfl)
  obtain ⟨b1,b2,b3,b4,b5,b6,b7⟩:=Tk.ZnP fl { Tk.Zm8 at_ with spaces:=(Tk.Zm8 at_).spaces++[(nA,fl)]}
  have hld:(Tk.Zm8 at_).loaded nA fl={ Tk.Zm8 at_ with spaces:=(Tk.Zm8 at_).spaces++[(nA,fl)]}.freshL fl:=rfl
  rw [← hld] at hcs b1 b4
  refine ⟨by rw [b4];exact Nat.zero_le _,fun x hx f hf=>?_⟩
  rw [b1] at hx
  have:x=(nA,fl):=by simpa [Tk.Zm8] using hx
  subst this
  refine ⟨_,hcs f hf,Tk.Zjp ?_⟩
  have:=List.any_eq_false.1 hr f hf
  simpa using this
section
variable {h h':Zb} {T:TT} {wb:Nat} {sp:Sl} {w:Cu}
theorem ZpO (hW:Wld h T wb sp w) {at_:Int} (hw:w.srv=Tk.Zm8 at_) {s:Sl} {fl:List F4} (hr:Row h s 4 (fl.flatMap f4L)) (hfl:fl.length≤1099511627776) (hsl:fl.flatMap f4L≠[]→∀ k,s.blk=some k→T k=none∧k<sz h) {K:Int→Zb→Prop}
    (hk1:∀ e h',e≠0→¬ Zfu w.srv nA fl→Wld h' T wb sp w→ZaI T T h h'→K e h') (hk2:Zfu w.srv nA fl→∀ h' T',Wld h' T' wb sp { w with srv:=w.srv.loaded nA fl }→ZaI T T' h h'→K 0 h'):Yx (some ⟨wb,0,none⟩) s K h:=by
  unfold Yx ZaH
  obtain ⟨nb,sb,sg,pl,hR⟩:=hW
  refine Za (Zm (Zg (rP (hR.wc (j:=1) rfl) ?_)))
  refine Tk.ZsT hR.srv (name:=nA) (by decide) (by rw [hw];rfl) (by rw [hw];exact Nat.zero_le _) hr hfl (fun hne k hk=>⟨Zbb (hsl hne k hk).1,(hsl hne k hk).2⟩) (fun e h' he hl ex=>Za ?_) (fun hl h' T' hn st=>Za ?_)
  ·exact hk1 e h' he hl ⟨nb,sb,sg,pl,hR.ext ex⟩ ((ZaI.refl T h).ext ex)
  ·obtain ⟨hR',s'⟩:=hR.srvS st hn
   exact hk2 hl h' _ (hR'.to rfl) s'
theorem Zrh (hW:Wld h T wb sp w) {i:Nat} {p:Pe} (hp:w.pes[i]?=some p) {K:Sl→Zb→Prop}
    (hk:∀ s h' T',Row h' s 7 (p.cl.told.flatMap tC)→Wld h' T' wb sp (w.setP i { p with cl:={ p.cl with told:=[]}})→ZaI T T' h h'→K s h'):Yw (some ⟨wb,0,none⟩) (i:Int) K h:=by
  unfold Yw ZaG Z6 X5
  have hlt:=Zbv hp
  refine Zmd hW (fun e=>by omega) (fun k q b hi hq hb=>Zs (Zg ?_))
  have ek:k=i:=by omega
  subst ek
  rw [hp] at hq
  cases Option.some.inj hq
  obtain ⟨nb,sb,sg,pl,hR⟩:=hW
  obtain ⟨cb,rb,hx⟩:=hR.pe2 hp
  refine rP (hR.pc hx hb (j:=0) (by decide) rfl) ?_
  refine ZsK (hR.cls k _ hx) fun s h' T' o _ hC st=>?_
  obtain ⟨hR',s'⟩:=hR.clS hx st hC
  exact hk s h' _ o.row (hR'.to rfl) s'
theorem ZnN (hW:Wld h T wb sp w) (hg:w.grs.length≤137438953472) {K:Sl→Zb→Prop} (hk:∀ s h',Own h' h.size s 9 (w.grs.flatMap gtL)→Ext h h'→K s h'):Yi (some ⟨wb,0,none⟩) K h:=by
  unfold Yi X6
  obtain ⟨nb,sb,sg,pl,hR⟩:=hW
  refine Zm (Zg (rL (hR.wc (j:=5) rfl) ?_))
  unfold ZR YF
  have hl:=hR.grs.len
  rw [Yh Zli] at hl
  cases hp:sg.ptr with
  | none =>
    refine Zs ?_
    have h0:w.grs=[]:=by
      have hsl:sg.len=0:=by
        rcases hR.grs.at_ with ⟨_,h9⟩ | ⟨b,c,e,h9,_⟩
        ·have:=hR.grs.cap;omega
        ·rw [hp] at h9;cases h9
      exact List.eq_nil_of_length_eq_zero (by omega)
    rw [h0] at hk
    exact hk _ _ (Own.nil h h.size 9) (Ext.refl h)
  | some a =>
    refine Zm ?_
    refine ZJb 9 fun h1 o1 e1 z1=>?_
    refine (hR.grs.row.ext e1).rd ?_
    refine Own.app o1 (by rw [Yh Zli];omega) ?_ rfl (by show (0+sg.len)*80≤_;omega) (by show 0+sg.len≤_;omega) (by omega) fun s' h' o' l' u' b'=>?_
    ·rw [List.all_eq_true]
     intro v hv
     obtain ⟨g,_,hg⟩:=List.mem_flatMap.1 hv
     simp only [gtL,List.mem_cons,List.not_mem_nil,or_false] at hg
     rcases hg with rfl | rfl | rfl | rfl | rfl | rfl | rfl | rfl | rfl<;>first | exact YP | exact Zgd
    ·exact hk s' h' (by simpa using o') (e1.then u' fun k hk=>by cases hk;exact Nat.le_refl _)
end
end Go.Proofs.YtbppjmcinoffnaaGreat
namespace Go.Proofs.YtbppjmcinoffnaaGreat
open Go Go.Fw
open Nat (reduceAdd reduceLT reduceLeDiff reduceEqDiff reduceMul)
open Tk (Zn rI rB rS rP rM rL Ziw X2 held1 ZbH wrS nA F4 f4L Zfu)
def opL (o:Op):List Value:=[.int .u8 o.1,iv o.2.1,iv o.2.2.1,iv o.2.2.2.1,iv o.2.2.2.2.1,.int .u8 o.2.2.2.2.2.1,iv o.2.2.2.2.2.2.1,iv o.2.2.2.2.2.2.2.1,.string o.2.2.2.2.2.2.2.2.1,iv o.2.2.2.2.2.2.2.2.2.1]
theorem Zld (o:Op):(opL o).length=10:=rfl
structure ZAf (o:Op):Prop where
  kind:0≤o.1∧o.1<256
  text:o.2.2.2.2.2.2.2.2.1.size<9223372036854775808
def Cu.runR (w:Cu):List Op→List Int × Cu
  | []=>([],w)
  | o::r=>((w.doR o).1.2.2::(Cu.runR (w.doR o).2 r).1,(Cu.runR (w.doR o).2 r).2)
theorem Zhi:∀ (l:List Op) (w:Cu) (k:Nat) (o:Op),l[k]?=some o→w.runR (l.take (k+1))=((w.runR (l.take k)).1++[((w.runR (l.take k)).2.doR o).1.2.2],((w.runR (l.take k)).2.doR o).2)
  | [],_,_,_,h=>by cases h
  | a::l,w,0,o,h=>by
    cases Option.some.inj h
    rfl
  | a::l,w,k+1,o,h=>by
    have ih:=Zhi l (w.doR a).2 k o h
    rw [List.take_succ_cons,List.take_succ_cons]
    show (_::(Cu.runR (w.doR a).2 (l.take (k+1))).1,(Cu.runR (w.doR a).2 (l.take (k+1))).2)=_
    rw [ih]
    rfl
theorem Zck.run {tmo:Int}:∀ {l:List Op} {w:Cu} {n:Nat},Zck tmo w n→n+l.length≤1000→Zck tmo (w.runR l).2 (n+l.length)
  | [],_,_,h,_=>h
  | o::l,w,n,h,hn=>by
    rw [List.length_cons] at hn ⊢
    have:=Zck.run (l:=l) (h.do (by omega) o) (by omega)
    have e:n+(l.length+1)=n+1+l.length:=by omega
    rw [e]
    exact this
section
variable {h h':Zb} {T:TT} {wb:Nat} {sp:Sl} {w:Cu}
theorem Zty (hW:Wld h T wb sp w) {tmo:Int} {n:Nat} (hC:Zck tmo w n) {s:Sl} {l:List Op} (hr:Row h s 10 (l.flatMap opL)) (hT:∀ k,s.blk=some k→T k=none∧k<sz h) (hok:∀ o,o∈l→ZAf o) (hl:l.length≤100) (hn:n+l.length≤1000) {K:Sl→Zb→Prop}
    (hk:∀ out h' T',Row h' out 1 ((w.runR l).1.map iv)→Wld h' T' wb sp (w.runR l).2→ZaI T T' h h'→(∀ k,out.blk=some k→T' k=none)→K out h'):Yr (some ⟨wb,0,none⟩) s K h:=by
  unfold Yr Za0
  have hsl:s.len=l.length:=by
    have:=hr.len
    rw [Yh Zld] at this
    omega
  refine Zei (I:=fun st hh=>∃ (k:Nat) (T':TT) (out:Sl),st=(out,(k:Int),())∧k≤l.length∧Wld hh T' wb sp (w.runR (l.take k)).2∧ZaI T T' h hh∧Own hh (sz h) out 1 ((w.runR (l.take k)).1.map iv)∧out.len=k∧∀ j,out.blk=some j→T' j=none) (fun st _=>l.length - st.2.1.toNat)
    ⟨0,T,⟨none,0,0⟩,rfl,Nat.zero_le _,hW,ZaI.refl _ _,Own.nil h (sz h) 1,rfl,fun j hj=>by cases hj⟩ ?_
  rintro _ h2 ⟨k,T2,out,rfl,hkl,hW2,s2,o2,hol,n2⟩ Q hQ
  dsimp only
  refine Zl (fun c=>?_) (fun c=>?_)
  ·have hkl2:k<l.length:=by omega
   have ho:l[k]?=some l[k]:=List.getElem?_eq_getElem hkl2
   have hom:l[k]∈l:=List.getElem_mem hkl2
   generalize l[k]=o at ho hom
   obtain ⟨ok1,ok2⟩:=hok o hom
   have hr2:Row h2 s 10 (l.flatMap opL):=hr.congr fun b i hp _ _=>by
     have hb:s.blk=some b:=by simp [Sl.blk,hp]
     obtain ⟨t1,t2⟩:=hT b hb
     exact s2.upd.old b t2 fun e=>e t1
   obtain ⟨b,i,_,_,hidx,hc⟩:=ZbH Zld hr2 ho (by decide)
   refine hidx rfl ?_
   refine rI (hc 0 _ rfl) (rI (hc 1 _ rfl) (rI (hc 2 _ rfl) (rI (hc 3 _ rfl) (rI (hc 4 _ rfl) (rI (hc 5 _ rfl) (rI (hc 6 _ rfl) (rI (hc 7 _ rfl) (rS (hc 8 _ rfl) (rI (hc 9 _ rfl) ?_)))))))))
   refine ZaL fun h3 c3 e3 z3=>Za ?_
   refine ZpW (vs:=opL o) c3 rfl (by simp only [opL,List.all_cons,List.all_nil,YP,Zgd];rfl) rfl fun h4 c4 u4 z4=>Za ?_
   have e4:Ext h2 h4:=e3.then u4 fun k hk=>by rw [hk];exact Nat.le_refl _
   refine ZaY (decide_eq_true (by omega)) ?_
   refine rI (Zn c4 rfl) (rI (Zn c4 rfl) (rI (Zn c4 rfl) (rI (Zn c4 rfl) (rI (Zn c4 rfl) (rI (Zn c4 rfl) (rI (Zn c4 rfl) (rI (Zn c4 rfl) (rS (Zn c4 rfl) (rI (Zn c4 rfl) ?_)))))))))
   have hC2:=hC.run (l:=l.take k) (by rw [List.length_take];omega)
   have hlt:(l.take k).length=k:=by rw [List.length_take];omega
   rw [hlt] at hC2
   refine ZwT (hW2.ext e4) hC2 (by omega) (o:=o) ok1 ok2 fun h5 T5 hW5 s5=>Za ?_
   refine ZaL fun h6 c6 e6 z6=>(ZyU (n:=1) (l:=[iv _]) c6 rfl).rd ?_
   have es:=Zhi l w k o ho
   have o5:Own h6 (sz h) out 1 ((w.runR (l.take k)).1.map iv):=o2.congr fun b hb hlt _=>(e6.old b (Nat.lt_of_lt_of_le hlt (Nat.le_trans e4.size s5.upd.size))).trans ((s5.upd.old b (Nat.lt_of_lt_of_le hlt e4.size) fun e=>e (n2 b hb)).trans (e4.old b hlt))
   have zle:sz h≤sz h6:=Nat.le_trans s2.upd.size (Nat.le_trans e4.size (Nat.le_trans s5.upd.size e6.size))
   refine Own.app o5 rfl rfl rfl (by omega) (by omega) zle fun out' h7 o7 l7 u7 b7=>?_
   have n5:∀ j,out.blk=some j→T5 j=none:=fun j hj=>s5.none_ (n2 j hj) (Nat.lt_of_lt_of_le (o2.lt hj).2 e4.size)
   rw [wrS hkl2 (by omega)]
   refine hQ _ _ ⟨k+1,T5,out',rfl,hkl2,?_,((s2.trans (ZaI.pre e4 s5)).ext e6).also u7 fun j hj=>(o2.lt hj).1,?_,by omega,fun j hj=>?_⟩ (by dsimp only;omega)
   ·rw [es]
    exact (hW5.ext e6).upd u7 fun j hj=>n5 j hj
   ·rw [es,List.map_append]
    exact o7
   ·rcases b7 with e | e
    ·rw [e] at hj;exact n5 j hj
    ·rw [e] at hj
     cases hj
     exact hW5.no e6.size
  ·have e:k=l.length:=by omega
   subst e
   rw [List.take_length] at hW2 o2
   exact hk out h2 T2 o2.row hW2 s2 n2
end
end Go.Proofs.YtbppjmcinoffnaaGreat
namespace Go.Proofs.YtbppjmcinoffnaaGreat
open Go Go.Fw
open Nat (reduceAdd reduceLT reduceLeDiff reduceEqDiff reduceMul)
open Tk (nA F4 f4L Zfu)
def lvF:F4:=(1,2,1,0,())
def lvR:Rq:=(0,1,1,2,ByteArray.mk #[],0,())
def lv1:Op:=(1,0,2000000,0,0,0,0,0,ByteArray.mk #[],0,())
def lv2:Op:=(3,0,0,0,0,0,0,0,ByteArray.mk #[],0,())
def lv3:Op:=(2,0,0,0,lvR)
def lv5:Op:=(4,0,0,1000,0,0,0,0,ByteArray.mk #[],0,())
def lv6:Op:=(5,0,0,1000,0,0,0,0,ByteArray.mk #[],0,())
def lvW:Cu:={ ZjY 0 1000000 1 2 1 with srv:=(Tk.Zm8 0).loaded nA [lvF]}
def Zko:Cu:=(lvW.runR [lv1,lv2,lv3,lv3]).2
theorem ZJc:(lvW.runR [lv1,lv2,lv3,lv3]).1=[0,0,0,0]:=by kernel_rfl
def ZrW:List (List UInt8):=[Zk7 (ZmA nA),Zk7 (Zk0 lvR 1),Zk7 (Zk0 lvR 2)]
def ZpZ:List (List UInt8):=[ZzD (0,1,0,0,0,()),ZzD (1,1,0,0,0,()),ZzD (2,2,0,0,0,())]
def lvP (w:Cu):Pe:=match w.pes[0]? with
  | some p=>p
  | none=>⟨Zh0 0 0 0 nA,0,none⟩
theorem ZEL:Zko.pes[0]?=some (lvP Zko):=by kernel_rfl
theorem ZEN:Zko.mvE (lvP Zko) 1000=0:=by kernel_rfl
theorem ZEI:(lvP Zko).rd=some ([],false):=by kernel_rfl
theorem ZER:(Zko.moved (lvP Zko).conn 0 1000).1=fr ZrW:=by kernel_rfl
def ZtR:Cu:={ Zko with cs:=(Zko.moved (lvP Zko).conn 0 1000).2,pes:=Zko.pes.set 0 { lvP Zko with rd:=some ([],false)}}
def ZhJ:Cu:=(ZtR.serveL 0 (lvP Zko).conn ZrW).2
theorem ZEH:(ZtR.serveL 0 (lvP Zko).conn ZrW).1=true:=by kernel_rfl
theorem ZFl (l:List UInt8) (h:decide (1≤l.length)&&decide (l.length≤4096)=true):Znb l:=by
  simp only [Bool.and_eq_true,decide_eq_true_eq] at h
  exact h
theorem Zy9:Zhb (fr ZrW)=(ZrW,false,[]):=ZnZ ZrW fun l hl=>by
  simp only [ZrW,List.mem_cons,List.not_mem_nil,or_false] at hl
  rcases hl with rfl | rfl | rfl<;>exact ZFl _ (by kernel_rfl)
theorem ZJe:Zko.doR lv5=((0,false,0),ZhJ):=by
  have e1:Zko.doR lv5=res (Zko.toSrvR 0 1000):=by
    unfold Cu.doR
    rw [if_neg (by decide),if_neg (by decide),if_pos (by decide),if_neg (by decide),if_neg (by decide)]
    rfl
  rw [e1]
  unfold Cu.toSrvR
  rw [ZEL]
  dsimp only
  rw [if_neg (fun h=>h ZEN),ZEI]
  dsimp only
  rw [ZER]
  have e2:putS [] false (fr ZrW)=(ZrW,false,[]):=Zy9
  rw [e2]
  show res (0,if (ZtR.serveL 0 (lvP Zko).conn ZrW).1=true∧false=false then (ZtR.serveL 0 (lvP Zko).conn ZrW).2 else _)=_
  rw [if_pos ⟨ZEH,rfl⟩]
  rfl
theorem ZEK:ZhJ.pes[0]?=some (lvP ZhJ):=by kernel_rfl
theorem ZEM:ZhJ.mvE (lvP ZhJ) 1000=0:=by kernel_rfl
theorem ZEQ:(ZhJ.moved (lvP ZhJ).conn 1 1000).1=fr ZpZ:=by kernel_rfl
theorem ZwB:Zhb (fr ZpZ)=(ZpZ,false,[]):=ZnZ ZpZ fun l hl=>by
  simp only [ZpZ,List.mem_cons,List.not_mem_nil,or_false] at hl
  rcases hl with rfl | rfl | rfl<;>exact ZFl _ (by kernel_rfl)
def ZtS:Cl:={ (lvP ZhJ).cl.tick ZhJ.now with rb:=[],broken:=false }
def ZFm:Cl:=(ZtS.take ZpZ).1
theorem ZEG:(ZtS.take ZpZ).2=false:=by kernel_rfl
theorem ZEO:(lvP ZhJ).cl.atE ZhJ.now=0:=by kernel_rfl
theorem ZEF:(lvP ZhJ).cl.up=true:=by kernel_rfl
theorem Zy7:((lvP ZhJ).cl.tick ZhJ.now).rb=[]∧((lvP ZhJ).cl.tick ZhJ.now).broken=false:=⟨by kernel_rfl,by kernel_rfl⟩
theorem ZEP:(lvP ZhJ).cl.bytesR ZhJ.now (fr ZpZ)=(ZFm,0):=by
  unfold Cl.bytesR
  rw [if_pos ZEO,if_pos ZEF]
  unfold Cl.putB
  rw [Zy7.1,Zy7.2]
  have e2:putS [] false (fr ZpZ)=(ZpZ,false,[]):=ZwB
  dsimp only
  rw [e2]
  show (if (if (ZtS.take ZpZ).2=true then 50 else if false=true then 50 else 0:Int)=0 then (ZtS.take ZpZ).1 else _,_)=_
  rw [ZEG]
  rfl
def ZES:Cu:={ ZhJ with cs:=(ZhJ.moved (lvP ZhJ).conn 1 1000).2,pes:=ZhJ.pes.set 0 { lvP ZhJ with cl:=ZFm }}
def ZrV:Cu:=ZES.sends 0
theorem ZwA:ZhJ.pes.length=1:=by kernel_rfl
theorem ZJd:ZhJ.doR lv6=((0,false,0),ZrV):=by
  have e1:ZhJ.doR lv6=res (ZhJ.toClR 0 1000):=by
    unfold Cu.doR
    rw [ZwA,if_neg (by decide),if_neg (by decide),if_pos (by decide),if_neg (by decide),if_neg (by decide)]
    rfl
  rw [e1]
  unfold Cu.toClR
  rw [ZEK]
  dsimp only
  rw [if_neg (fun h=>h ZEM),ZEQ,if_neg (by intro h;have:=congrArg List.length h;revert this;decide),ZEP]
  rfl
def lvT (i:Nat):Tld:=match (lvP ZrV).cl.told[i]? with
  | some t=>t
  | none=>Zg4 0
theorem ZEJ:ZrV.pes[0]?=some (lvP ZrV):=by kernel_rfl
theorem Zwz:(lvP ZrV).cl.told=[lvT 0,lvT 1]:=by kernel_rfl
theorem Zy5:(lvT 0).a.2.1=1∧(lvT 1).a.2.1=2:=⟨by kernel_rfl,by kernel_rfl⟩
theorem Zy8:ZrV.grs.length=1:=by kernel_rfl
def lvL:List Op:=[lv1,lv2,lv3,lv3,lv5,lv6]
theorem Zy6:lvW.runR lvL=([0,0,0,0,0,0],ZrV):=by
  have h1:=Zhi lvL lvW 4 lv5 rfl
  have h2:=Zhi lvL lvW 5 lv6 rfl
  have e0:lvW.runR (lvL.take 4)=([0,0,0,0],Zko):=Prod.ext ZJc rfl
  have h1:lvW.runR (lvL.take 5)=([0,0,0,0]++[0],ZhJ):=by
    rw [h1,e0]
    dsimp only
    rw [ZJe]
  have h2:lvW.runR (lvL.take 6)=([0,0,0,0]++[0]++[0],ZrV):=by
    rw [h2,h1]
    dsimp only
    rw [ZJd]
  exact h2
theorem Zu6:Zmh 0 1 1000000 1 2=0:=by kernel_rfl
theorem ZrU:Zfu (Tk.Zm8 0) nA [lvF]:=⟨by kernel_rfl,by kernel_rfl,⟨by decide,fun f hf ⟨x,hx,_⟩=>by cases hx⟩,by kernel_rfl⟩
end Go.Proofs.YtbppjmcinoffnaaGreat
namespace Go.Proofs.YtbppjmcinoffnaaGreat
open Go Go.Fw
open Nat (reduceAdd reduceLT reduceLeDiff reduceEqDiff reduceMul)
open Tk (Zn rI rB rS rP rM rL Ziw X2 held1 ZbH wrS nA F4 f4L Zfu)
theorem ZFk {h:Zb} {b k n:Nat} {l:List Value} {t:TypeId} {f:Nat × Nat} (c:obj h b=some (.cells l.toArray t f)) (hl:l.length=k*n) (hk:k<9223372036854775808):Row h ⟨some ⟨b,0,none⟩,k,k⟩ n l :=
  ⟨hl,Nat.le_refl _,hk,.inr ⟨b,0,rfl,ZaC c fun i v hi=>by simpa using hi⟩⟩
theorem Zr0 {h:Zb} {K:Bool→Zb→Prop} (hk:∀ h',Ext h h'→K true h'):Zad K h:=by
  unfold Zad ZcB
  refine ZsY (fun e=>(e Zu6).elim) fun _ h2 T wb sp hW e2 low=>Za (Zbf (fun e=>(e rfl).elim) fun _=>Zm ?_)
  have lz:=e2.size
  refine ZaL fun h3 c3 e3 z3=>?_
  have nf:∀ k,(⟨some ⟨h2.size,0,none⟩,1,1⟩:Sl).blk=some k→T k=none∧k<sz h3:=fun k hk=>by cases hk;exact ⟨hW.no (Nat.le_refl _),by have h9:sz h3=sz h2+1:=z3;show sz h2<sz h3;omega⟩
  refine ZpO (hW.ext e3) (at_:=0) rfl (fl:=[lvF]) (ZyU (n:=4) c3 rfl) (by decide) (fun _=>nf) (fun e h' _ hn _ _=>(hn ZrU).elim) fun _ h5 T5 hW5 s5=>Za ?_
  have e5:Ext h h5:=(e2.trans e3).then s5.upd fun k hk=>low k hk
  have low5:∀ k,T5 k≠none→sz h≤k:=fun k hk=>by
    rcases s5.new k hk with q | q
    ·exact low k q
    ·have h9:sz h3≤k:=q
     have h8:sz h≤sz h3:=(e2.trans e3).size
     omega
  refine ZaL fun h7 c7 e7 z7=>ZpW (vs:=opL lv3) c7 rfl (by simp only [opL,List.all_cons,List.all_nil,YP,Zgd];rfl) rfl fun h8 c8 u8 z8=>?_
  have e8:Ext h5 h8:=e7.then u8 fun k hk=>by rw [hk];exact Nat.le_refl _
  refine rI (Zn c8 rfl) (rI (Zn c8 rfl) (rI (Zn c8 rfl) (rI (Zn c8 rfl) (rI (Zn c8 rfl) (rI (Zn c8 rfl) (rI (Zn c8 rfl) (rI (Zn c8 rfl) (rS (Zn c8 rfl) (rI (Zn c8 rfl) ?_)))))))))
  refine rI (Zn c8 rfl) (rI (Zn c8 rfl) (rI (Zn c8 rfl) (rI (Zn c8 rfl) (rI (Zn c8 rfl) (rI (Zn c8 rfl) (rI (Zn c8 rfl) (rI (Zn c8 rfl) (rS (Zn c8 rfl) (rI (Zn c8 rfl) ?_)))))))))
  refine ZaL fun h9 c9 e9 z9=>?_
  have hW9:Wld h9 T5 wb sp lvW:=(hW5.ext e8).ext e9
  have hC9:Zck 1000000 lvW 0:=((Zck.new Zu6).srvs (SOK.loaded ZrU))
  have hr9:Row h9 ⟨some ⟨h8.size,0,none⟩,6,6⟩ 10 (lvL.flatMap opL):=ZFk c9 rfl (by decide)
  have e59:Ext h h9:=(e5.trans e8).trans e9
  refine Zty hW9 hC9 hr9 (fun k hk=>by cases hk;exact ⟨hW5.no (by have h9:=e8.size;exact h9),by have q9:sz h9=sz h8+1:=z9;show sz h8<sz h9;omega⟩) (fun o ho=>by
    simp only [lvL,List.mem_cons,List.not_mem_nil,or_false] at ho
    rcases ho with rfl | rfl | rfl | rfl | rfl | rfl<;>exact ⟨by decide,by decide⟩) (by decide) (by decide) fun out h32 T32 o32 hW32 s32 n32=>?_
  rw [Zy6] at o32 hW32
  dsimp only at o32 hW32
  have e32:Ext h h32:=e59.then s32.upd fun k hk=>low5 k hk
  have low32:∀ k,T32 k≠none→sz h≤k:=fun k hk=>by
    rcases s32.new k hk with q | q
    ·exact low5 k q
    ·have h8:sz h9≤k:=q
     have h7:sz h≤sz h9:=e59.size
     omega
  have hol:out.len=6:=by
    have:=o32.len
    simpa using this.symm
  refine Za ?_
  refine Zei (I:=fun s hh=>hh=h32∧∃ k:Nat,s=((k:Int),())∧k≤6) (fun s _=>6 - s.1.toNat) ⟨rfl,0,rfl,by decide⟩ ?_
  rintro _ h35 ⟨rfl,k,rfl,hk6⟩ Q hQ
  dsimp only
  refine Zl (fun c=>?_) (fun c=>?_)
  ·have hk5:k<6:=by omega
   have hv:([0,0,0,0,0,0].map iv)[k]?=some (iv 0):=by
     have:k=0∨k=1∨k=2∨k=3∨k=4∨k=5:=by omega
     rcases this with rfl | rfl | rfl | rfl | rfl | rfl<;>rfl
   refine o32.idx (n:=k) rfl hv fun b o _ hc=>?_
   refine ⟨0,hc,Zbf (fun e=>(e rfl).elim) fun _=>Za ?_⟩
   rw [wrS (n:=6) hk5 (by decide)]
   exact hQ _ _ ⟨rfl,k+1,rfl,hk5⟩ (by dsimp only;omega)
  ·refine Zrh hW32 (i:=0) ZEJ fun s h40 T40 r40 hW40 s40=>?_
   rw [Zwz] at r40
   have hsl:s.len=2:=by
     have:=r40.len
     rw [Yh Zl6] at this
     simp only [List.length_cons,List.length_nil] at this
     omega
   have e40:Ext h h40:=e32.then s40.upd fun k hk=>low32 k hk
   refine Zl (fun _=>?_) (fun e=>(e rfl).elim)
   refine Zl (fun _=>?_) (fun e=>(e (by rw [hol];rfl)).elim)
   refine Zl (fun _=>?_) (fun e=>(e (by rw [hsl];rfl)).elim)
   obtain ⟨b0,o0,_,_,hi0,hc0⟩:=ZbH Zl6 r40 (i:=0) rfl (by decide)
   obtain ⟨b1,o1,_,_,hi1,hc1⟩:=ZbH Zl6 r40 (i:=1) rfl (by decide)
   refine hi0 rfl (rI (hc0 2 _ rfl) (Zl (fun _=>hi1 rfl (rI (hc1 2 _ rfl) (Zl (fun _=>?_) (fun e=>(e Zy5.2).elim)))) (fun e=>(e Zy5.1).elim)))
   have eg:(ZrV.setP 0 { lvP ZrV with cl:={ (lvP ZrV).cl with told:=[]}}).grs.length=1:=Zy8
   refine ZnN hW40 (by rw [eg];decide) fun sg h48 og e48=>?_
   have hgl:sg.len=1:=by
     have:=og.len
     rw [Yh Zli,eg] at this
     omega
   rw [YH,hgl]
   exact hk h48 (e40.trans e48)
theorem ZsX {h:Zb} {o:Op} {K:Int→Bool→Int→Zb→Prop} (hk:∀ h',Ext h h'→K 0 false 1 h'):YA none o K h:=by
  unfold YA Zbg
  exact ZaL fun h1 c1 e1 z1=>Za (Za (Zs (Za (Za (hk h1 e1)))))
theorem Zog {h:Zb} {i:Int} {r:Rq} {K:An→Int→Zb→Prop} (hk:∀ h',Ext h h'→K (0,0,0,0,0,()) 1 h'):Xi none i r K h:=by
  unfold Xi Zbs
  refine ZaL fun h1 c1 e1 z1=>ZaL fun h3 c3 e3 z3=>Za ?_
  rw [YH]
  refine Zs (ZpW (vs:=[iv 0,.int .u8 0,iv 0,iv 0,iv 0]) c3 rfl (by simp only [List.all_cons,List.all_nil,YP];rfl) rfl fun h5 c5 u5 z5=>Za ?_)
  refine rI (Zn c5 rfl) (rI (Zn c5 rfl) (rI (Zn c5 rfl) (rI (Zn c5 rfl) (rI (Zn c5 rfl) (hk h5 ?_)))))
  exact (e1.trans e3).then u5 fun k hk=>by rw [hk];exact e1.size
theorem Zup {h:Zb} {i:Int} {K:Int→Int→Zb→Prop} (hk:K 0 0 h):XW none i K h:=by
  unfold XW Zcf ZS XJ
  exact Za (Za (Zs (Zs (Za (Za hk)))))
theorem Zg7 {h:Zb} {i:Int} {K:Option Addr→Zb→Prop} (hk:K none h):Z6 none i K h:=by
  unfold Z6 X5 ZS XJ
  exact Zs (Zm hk)
theorem Zur {h:Zb} {s:Sl} {l:List Op} (hr:Row h s 10 (l.flatMap opL)) (hl:l.length≤100) {K:Sl→Zb→Prop} (hk:∀ out h',Own h' (sz h) out 1 (List.replicate l.length (iv 1))→Ext h h'→K out h'):Yr none s K h:=by
  unfold Yr Za0
  have hsl:s.len=l.length:=by
    have:=hr.len
    rw [Yh Zld] at this
    omega
  refine Zei (I:=fun st hh=>∃ (k:Nat) (out:Sl),st=(out,(k:Int),())∧k≤l.length∧Ext h hh∧Own hh (sz h) out 1 (List.replicate k (iv 1))) (fun st _=>l.length - st.2.1.toNat)
    ⟨0,⟨none,0,0⟩,rfl,Nat.zero_le _,Ext.refl h,Own.nil h (sz h) 1⟩ ?_
  rintro _ h2 ⟨k,out,rfl,hkl,e2,o2⟩ Q hQ
  dsimp only
  refine Zl (fun c=>?_) (fun c=>?_)
  ·have hkl2:k<l.length:=by omega
   have ho:l[k]?=some l[k]:=List.getElem?_eq_getElem hkl2
   generalize l[k]=o at ho
   obtain ⟨b,i,_,_,hidx,hc⟩:=ZbH Zld (hr.ext e2) ho (by decide)
   refine hidx rfl ?_
   refine rI (hc 0 _ rfl) (rI (hc 1 _ rfl) (rI (hc 2 _ rfl) (rI (hc 3 _ rfl) (rI (hc 4 _ rfl) (rI (hc 5 _ rfl) (rI (hc 6 _ rfl) (rI (hc 7 _ rfl) (rS (hc 8 _ rfl) (rI (hc 9 _ rfl) ?_)))))))))
   refine ZaL fun h3 c3 e3 z3=>Za ?_
   refine ZpW (vs:=opL o) c3 rfl (by simp only [opL,List.all_cons,List.all_nil,YP,Zgd];rfl) rfl fun h4 c4 u4 z4=>Za ?_
   have e4:Ext h2 h4:=e3.then u4 fun k hk=>by rw [hk];exact Nat.le_refl _
   refine ZaY (decide_eq_true (by omega)) ?_
   refine rI (Zn c4 rfl) (rI (Zn c4 rfl) (rI (Zn c4 rfl) (rI (Zn c4 rfl) (rI (Zn c4 rfl) (rI (Zn c4 rfl) (rI (Zn c4 rfl) (rI (Zn c4 rfl) (rS (Zn c4 rfl) (rI (Zn c4 rfl) ?_)))))))))
   refine ZsX fun h5 e5=>Za ?_
   refine ZaL fun h6 c6 e6 z6=>(ZyU (n:=1) (l:=[iv 1]) c6 rfl).rd ?_
   have e26:Ext h2 h6:=(e4.trans e5).trans e6
   have o6:Own h6 (sz h) out 1 (List.replicate k (iv 1)):=o2.congr fun b _ hlt _=>e26.old b hlt
   have ol:out.len=k:=by have:=o2.len;rw [List.length_replicate] at this;omega
   refine Own.app o6 rfl rfl rfl (by omega) (by omega) (Nat.le_trans e2.size e26.size) fun out' h7 o7 l7 u7 b7=>?_
   rw [wrS hkl2 (by omega)]
   refine hQ _ _ ⟨k+1,out',rfl,hkl2,(e2.trans e26).then u7 fun j hj=>(o2.lt hj).1,?_⟩ (by dsimp only;omega)
   rw [List.replicate_succ']
   exact o7
  ·have e:k=l.length:=by omega
   subst e
   exact hk out h2 o2 e2
theorem Ziz {o:Op} {h:Zb} {K:Bool→Zb→Prop} (_:ZAf o) (hk:∀ h',Ext h h'→K true h'):Zay o K h:=by
  unfold Zay ZaD
  refine ZaL fun h1 c1 e1 z1=>?_
  have c1:obj h1 (sz h)=some (.cells (opL o).toArray _ (0,0)):=c1
  refine rI (Zn c1 rfl) (rI (Zn c1 rfl) (rI (Zn c1 rfl) (rI (Zn c1 rfl) (rI (Zn c1 rfl) (rI (Zn c1 rfl) (rI (Zn c1 rfl) (rI (Zn c1 rfl) (rS (Zn c1 rfl) (rI (Zn c1 rfl) ?_)))))))))
  refine ZsX fun h14 e14=>Za ?_
  rw [YH]
  refine Za ?_
  have c14:=Yg c1 e14
  refine rI (Zn c14 rfl) (rI (Zn c14 rfl) (rI (Zn c14 rfl) (rI (Zn c14 rfl) (rS (Zn c14 rfl) (rI (Zn c14 rfl) ?_)))))
  refine Zog fun h24 e24=>ZaL fun h26 c26 e26 z26=>?_
  refine ZpW (vs:=[iv 0,.int .u8 0,iv 0,iv 0,iv 0]) c26 rfl (by simp only [List.all_cons,List.all_nil,YP];rfl) rfl fun h27 c27 u27 z27=>Za ?_
  have e27:Ext h14 h27:=e24.trans (e26.then u27 fun k hk=>by rw [hk];exact Nat.le_refl _)
  refine Zup (Za (Za ?_))
  have c30:=Yg c14 e27
  refine rI (Zn c30 rfl) (rI (Zn c30 rfl) (rI (Zn c30 rfl) (rI (Zn c30 rfl) (rI (Zn c30 rfl) (rI (Zn c30 rfl) (rI (Zn c30 rfl) (rI (Zn c30 rfl) (rS (Zn c30 rfl) (rI (Zn c30 rfl) ?_)))))))))
  refine rI (Zn c30 rfl) (rI (Zn c30 rfl) (rI (Zn c30 rfl) (rI (Zn c30 rfl) (rI (Zn c30 rfl) (rI (Zn c30 rfl) (rI (Zn c30 rfl) (rI (Zn c30 rfl) (rS (Zn c30 rfl) (rI (Zn c30 rfl) ?_)))))))))
  refine ZaL fun h53 c53 e53 z53=>?_
  refine Zur (l:=[o,o]) (ZFk (k:=2) c53 rfl (by decide)) (show 2≤100 by decide) fun out h55 o55 e55=>?_
  have eA:Ext h h55:=(((e1.trans e14).trans e27).trans e53).trans e55
  have r55:Row h55 out 1 [iv 1,iv 1]:=o55.row
  have hol:out.len=2:=by have:=r55.len;simpa using this.symm
  refine Zr0 fun h57 e57=>Zs (Zs (Zs ?_))
  unfold Yx ZaH
  refine Za (Zs (Za (Zs (ZaY (by rw [hol];rfl) ?_))))
  refine (r55.ext e57).idx (n:=0) rfl rfl fun b i _ hc=>?_
  refine ⟨1,hc,Zs ?_⟩
  unfold Yw ZaG Zag ZcO
  refine Zg7 (Zs (Zs ?_))
  unfold Xs ZaE ZF Za9
  refine Zg7 (Zm (Zy (Zs ?_)))
  unfold Zbd ZcK
  refine Zm (Zs ?_)
  unfold ZaW Zcg
  refine Za (Zs (Za (Zs ?_)))
  unfold Yi X6
  refine Zs (Zs ?_)
  unfold XQ Za7 Zi Zan
  refine Zg7 (Zs (Zs (Zs (Zs ?_))))
  unfold X4 Zbr
  refine Zs (Zs ?_)
  unfold ZaF ZbR
  exact Zs (Zy (hk h57 (eA.trans e57)))
end Go.Proofs.YtbppjmcinoffnaaGreat
namespace Go.Proofs.YtbppjmcinoffnaaGreat.Tk
open Go Go.Fw Go.ChangeShapes Go.WideShapes
theorem ZoN {H:Type} {d:DataW H}:∀ {l:List (DataW H)},d∈l→Rows.uptoBulk d≤Rows.uptoBulkAll l
  | e::l,h=>by
    rcases List.mem_cons.1 h with rfl | h
    ·simp only [Rows.uptoBulkAll];omega
    ·have:=ZoN h
     simp only [Rows.uptoBulkAll]
     omega
section
variable {H:Type} {enc:TypeId × Value→H} {P:Program} {w:World} {base:Nat} {spare:Nat→Bool} {held:Bool}
theorem Zhy {fs:Array Field} {l:List (TypeId × Nat)} (hf:fs.toList.map (fun f=>(f.type,f.offset))=l) {i:Nat} {p:TypeId × Nat} (hp:l[i]?=some p):∃ f,fs[i]?=some f∧f.type=p.1∧f.offset=p.2:=by
  subst hf
  rw [List.getElem?_map,Option.map_eq_some_iff] at hp
  obtain ⟨f,h1,rfl⟩:=hp
  exact ⟨f,by simpa using h1,rfl,rfl⟩
theorem Zvj {t:TypeId} {fs:Array Field} {cs:List Value} {fuel:Nat} {x:DataW H × List MemPlace} (ht:P.underlying t=some (.struct fs)) (hc:P.cellsOf t=6) {ti tw ts:TypeId} (hti:P.underlying ti=some (.int .i64)) (htw:P.underlying tw=some (.int .u8)) (hts:P.underlying ts=some .string)
    (ci:P.cellsOf ti=1) (cw:P.cellsOf tw=1) (csz:P.cellsOf ts=1) (hf:fs.toList.map (fun f=>(f.type,f.offset))=[(ti,0),(tw,1),(ti,2),(ti,3),(ts,4),(ti,5)])
    (h:DataW.trod enc P w base spare held fuel t cs=some x):∃ r:Rq,cs=rqC r∧r.2.2.2.2.1.size<9223372036854775808∧r.2.2.2.2.1.size+1≤Rows.uptoBulk x.1:=by
  obtain ⟨xs,n,rfl,rfl,hl,hlen,hall⟩:=DataW.trod_struct ht h
  rw [hc] at hl
  have hfl:fs.size=6:=by
    have:=congrArg List.length hf
    simpa using this
  match cs,hl with
  | [c0,c1,c2,c3,c4,c5],_ =>
    have int:∀ (i o:Nat) (c:Value),([(ti,0),(tw,1),(ti,2),(ti,3),(ts,4),(ti,5)]:List (TypeId × Nat))[i]?=some (ti,o)→(([c0,c1,c2,c3,c4,c5]:List Value).drop o).take 1=[c]→∃ m,c = .int .i64 m:=fun i o c h1 h2=>by
      obtain ⟨f,g1,g2,g3⟩:=Zhy hf h1
      have:=hall i f g1
      simp only at g2 g3
      rw [g2,g3,ci,h2] at this
      have hi:i<xs.length:=by
        rw [hlen,hfl]
        rcases Nat.lt_or_ge i 6 with h9 | h9
        ·exact h9
        ·rw [List.getElem?_eq_none (by simpa using h9)] at h1;cases h1
      rw [List.getElem?_eq_getElem hi] at this
      obtain ⟨m,hm,_⟩:=DataW.trod_int hti this
      exact ⟨m,by simpa using hm⟩
    obtain ⟨m0,rfl⟩:=int 0 0 c0 rfl rfl
    obtain ⟨m2,rfl⟩:=int 2 2 c2 rfl rfl
    obtain ⟨m3,rfl⟩:=int 3 3 c3 rfl rfl
    obtain ⟨m5,rfl⟩:=int 5 5 c5 rfl rfl
    have w1:∃ m,c1 = .int .u8 m:=by
      obtain ⟨f,g1,g2,g3⟩:=Zhy hf (i:=1) rfl
      have:=hall 1 f g1
      simp only at g2 g3
      rw [g2,g3,cw] at this
      rw [List.getElem?_eq_getElem (by omega:1<xs.length)] at this
      obtain ⟨m,hm,_⟩:=DataW.trod_int htw this
      exact ⟨m,by simpa using hm⟩
    obtain ⟨m1,rfl⟩:=w1
    have s4:∃ s:ByteArray,c4 = .string s∧s.size≤maxLen∧s.size+1≤Rows.uptoBulkAll (xs.map (·.1)):=by
      obtain ⟨f,g1,g2,g3⟩:=Zhy hf (i:=4) rfl
      have:=hall 4 f g1
      simp only at g2 g3
      rw [g2,g3,csz] at this
      rw [List.getElem?_eq_getElem (by omega:4<xs.length)] at this
      obtain ⟨s,hs,hx,hsz⟩:=DataW.trod_string hts this
      refine ⟨s,by simpa using hs,hsz,?_⟩
      have hm:(DataW.lit (.string s.data.toList):DataW H)∈xs.map (·.1):=List.mem_map.2 ⟨xs[4],List.getElem_mem _,by rw [hx]⟩
      have:=ZoN hm
      simp only [Rows.uptoBulk] at this
      have e:s.data.toList.length=s.size:=by simp
      omega
    obtain ⟨s,rfl,hsz,hbulk⟩:=s4
    refine ⟨(m0,m1,m2,m3,s,m5,()),rfl,ZrT hsz,?_⟩
    simp only [Rows.uptoBulk]
    omega
end
section
variable {H:Type} {enc:TypeId × Value→H} {P:Program} {w:World} {base:Nat} {spare:Nat→Bool} {held:Bool}
theorem ZyI {n:Int} (h:(Lit.int .u8 n).wf=true):0≤n∧n<256:=by
  simp only [Lit.wf,Bool.and_eq_true,decide_eq_true_eq] at h
  have h1:IntKind.u8.min=0:=by decide
  have h2:IntKind.u8.max=255:=by decide
  omega
end
end Go.Proofs.YtbppjmcinoffnaaGreat.Tk
namespace Go.Proofs.YtbppjmcinoffnaaGreat
open Go Go.Fw
open Nat (reduceAdd reduceLT reduceLeDiff reduceEqDiff reduceMul)
open Tk (Zn rI rB rS rP rM rL Ziw X2 held1 ZbH wrS nA F4 f4L Xl Zfu)
end Go.Proofs.YtbppjmcinoffnaaGreat
namespace Go.Proofs.YtbppjmcinoffnaaGreat
open Go Go.Fw Go.ChangeShapes Go.WideShapes
open Tk (F4 f4L Xl Zvj Zhy ZyI)
section
variable {H:Type} {enc:TypeId × Value→H} {P:Program} {w:World} {base:Nat} {spare:Nat→Bool} {held:Bool}
theorem ZzC {t:TypeId} {fs rs:Array Field} {cs:List Value} {fuel:Nat} {x:DataW H × List MemPlace} (ht:P.underlying t=some (.struct fs)) (hc:P.cellsOf t=10) {ti tr tw ts tk:TypeId} (hti:P.underlying ti=some (.int .i64)) (htr:P.underlying tr=some (.struct rs))
    (htw:P.underlying tw=some (.int .u8)) (hts:P.underlying ts=some .string) (htk:P.underlying tk=some (.int .u8)) (ci:P.cellsOf ti=1) (cr:P.cellsOf tr=6) (cw:P.cellsOf tw=1) (csz:P.cellsOf ts=1) (ck:P.cellsOf tk=1)
    (hf:fs.toList.map (fun f=>(f.type,f.offset))=[(tk,0),(ti,1),(ti,2),(ti,3),(tr,4)]) (hr:rs.toList.map (fun f=>(f.type,f.offset))=[(ti,0),(tw,1),(ti,2),(ti,3),(ts,4),(ti,5)])
    (h:DataW.trod enc P w base spare held fuel t cs=some x):∃ o:Op,cs=opL o∧ZAf o∧1≤Rows.uptoBulk x.1:=by
  obtain ⟨xs,n,rfl,rfl,hl,hlen,hall⟩:=DataW.trod_struct ht h
  rw [hc] at hl
  have hfl:fs.size=5:=by
    have:=congrArg List.length hf
    simpa using this
  match cs,hl with
  | [c0,c1,c2,c3,c4,c5,c6,c7,c8,c9],_ =>
    have fld:∀ {i:Nat} {p:TypeId × Nat} (hi:i<xs.length),([(tk,0),(ti,1),(ti,2),(ti,3),(tr,4)]:List (TypeId × Nat))[i]?=some p→DataW.trod enc P w base spare held n p.1 (([c0,c1,c2,c3,c4,c5,c6,c7,c8,c9].drop p.2).take (P.cellsOf p.1))=some xs[i]:=fun {i p} hi hp=>by
      obtain ⟨f,g1,g2,g3⟩:=Zhy hf hp
      have:=hall i f g1
      rw [g2,g3,List.getElem?_eq_getElem hi] at this
      exact this
    have f0:=fld (i:=0) (by omega) rfl
    have f1:=fld (i:=1) (by omega) rfl
    have f2:=fld (i:=2) (by omega) rfl
    have f3:=fld (i:=3) (by omega) rfl
    have f4:=fld (i:=4) (by omega) rfl
    dsimp only at f0 f1 f2 f3 f4
    rw [ck] at f0
    rw [ci] at f1 f2 f3
    rw [cr] at f4
    obtain ⟨m0,h0,_,w0⟩:=DataW.trod_int htk f0
    obtain ⟨m1,h1,_⟩:=DataW.trod_int hti f1
    obtain ⟨m2,h2,_⟩:=DataW.trod_int hti f2
    obtain ⟨m3,h3,_⟩:=DataW.trod_int hti f3
    obtain ⟨r,h4,hrs,hrb⟩:=Zvj htr cr hti htw hts ci cw csz hr f4
    simp at h0 h1 h2 h3 h4
    obtain ⟨rfl,rfl,rfl,rfl,rfl,rfl⟩:=h4
    subst h0 h1 h2 h3
    refine ⟨(m0,m1,m2,m3,r),rfl,⟨ZyI w0,hrs⟩,?_⟩
    simp only [Rows.uptoBulk]
    omega
end
end Go.Proofs.YtbppjmcinoffnaaGreat
