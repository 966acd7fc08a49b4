/- The cluster: New and Load. -/
import Derived.KernelRfl
import Derived.Test.YtbppjmcinoffnaaGreatPa16
set_option linter.unusedVariables false
set_option linter.unusedSimpArgs false
namespace Go.Proofs.YtbppjmcinoffnaaGreat
open Go Go.Fw
open Nat (reduceAdd reduceLT reduceLeDiff reduceEqDiff reduceMul)
open Tk (Zu rI rB rS rP rM rL Zif Zac held1 Zbr wrS nA)
abbrev nPm (cb:Nat) (c:Cl):Pm:=(cb,0,⟨c,0,none⟩)
def ZsT (Tn Ts:Nat→Option Nat) (wb:Nat):TT:=fun k=>match Tn k with
  | some t=>some (1,t)
  | none=>match Ts k with
    | some t=>some (2,t)
    | none=>if k=wb then some (0,0) else none
theorem Zun {Tn Ts:Nat→Option Nat} {wb k t:Nat} (h:Tn k=some t):ZsT Tn Ts wb k=some (1,t):=by unfold ZsT;rw [h]
theorem Zum {Tn Ts:Nat→Option Nat} {wb k t:Nat} (h:Tn k=none) (h2:Ts k=some t):ZsT Tn Ts wb k=some (2,t):=by unfold ZsT;rw [h,h2]
theorem Ziy {Tn Ts:Nat→Option Nat} {wb k:Nat} (h:Tn k=none) (h2:Ts k=none):ZsT Tn Ts wb k=if k=wb then some (0,0) else none:=by unfold ZsT;rw [h,h2]
def Zzj (tmo least most:Int) (at_:Int):Pe:=⟨(ZhE tmo least most nA).atS at_,0,none⟩
def ZiR (at_ tmo least most:Int) (k:Nat):Cu:=⟨St.liP (fun _=>false) [1],[],Tk.Zln at_,true,List.replicate k (Zzj tmo least most at_),at_,[]⟩
def ZlX (at_ clients tmo least most:Int):Int:=if at_<0 then 2 else if at_>1152921504606846976 then 2 else if clients<1 then 2 else if clients>8 then 2 else ZiQ tmo least most nA
section
variable {h h':Zb} {T:TT} {wb nb sb:Nat} {sp sg:Sl} {pl:List Pm} {w:Cu}
theorem WR.tagC (hR:WR h T wb nb sb sp sg pl w) (e:Ext h h') {Tc:Nat→Option Nat} {cb:Nat} {c:Cl} (hC:Client h' Tc cb c) (hT:∀ k,Tc k≠none→sz h≤k) :
    WR h' (cmb (3+2*pl.length) T Tc) wb nb sb sp sg pl w∧Zax T (cmb (3+2*pl.length) T Tc) h h' :=
  hR.part (by omega) ⟨e.upd _,fun k hk=> .inr (hT k hk)⟩ hC.lt (w':=w) rfl rfl rfl rfl hR.pes (.inr ⟨by omega,rfl,rfl⟩) (.inr ⟨by omega,rfl⟩) (fun i x hx=> .inr ⟨by have:=ZaT hx;omega,x,hx,rfl,rfl⟩) fun i x l br hx hr=> .inr ⟨by omega,x,hx,rfl,hr⟩
theorem WR.addP (hR:WR h T wb nb sb sp sg pl w) {cb:Nat} {c:Cl} (hC:Client h (prj (3+2*pl.length) T) cb c) {s':Sl} (ho:Own h' 0 s' 3 ((pl++[nPm cb c]).flatMap peL)) (hu:Upd (fun k=>sp.blk=some k) h h') (hb:s'.blk=sp.blk∨s'.blk=some h.size) {K:Zb→Prop}
    (hk:∀ h2 T',WR h2 T' wb nb sb s' sg (pl++[nPm cb c]) { w with pes:=w.pes++[⟨c,0,none⟩]}→Zax T T' h h2→K h2):st h' wb 3 (slV s') K:=by
  have hw:¬ sp.blk=some wb:=fun e=>by
    have:=hR.tsp wb e
    rw [hR.twb] at this
    cases this
  have c1:=XG hR.cells hu hw
  refine Zif c1 (by decide:3<6) Zgu fun h2 c2 u2 z2=>?_
  have lo:∀ k,s'.blk=some k→T k=some (0,1)∨h.size≤k:=fun k hk=>by
    rcases hb with e | e
    ·rw [e] at hk;exact .inl (hR.tsp k hk)
    ·rw [e] at hk;cases hk;exact .inr (Nat.le_refl _)
  have hu2:Upd (fun k=>∃ t,T k=some (0,t)) h h2:=Upd.then (hu.mono fun k _ hk=>⟨1,hR.tsp k hk⟩) u2 fun k _ hk=>⟨0,by rw [hk];exact hR.twb⟩
  have z2':sz h2=sz h':=z2
  have hT:∀ k,T k≠none→(if s'.blk=some k then some (0,1) else T k)=T k:=fun k hk=>by
    split
    ·rename_i e
     rcases lo k e with h1 | h1
     ·exact h1.symm
     ·exact (hk (hR.no h1)).elim
    ·rfl
  have hsg:∀ b,sg.blk=some b→h2[b]?=h[b]?:=fun b hb'=>by
    have tb:=hR.tsg b hb'
    have hl:b<sz h:=hR.lt b (by rw [tb];exact fun e=>by cases e)
    have n1:b≠wb:=fun e=>by rw [e,hR.twb] at tb;cases tb
    have n2:¬ sp.blk=some b:=fun e=>by rw [hR.tsp b e] at tb;cases tb
    exact (u2.old b (Nat.lt_of_lt_of_le hl hu.size) n1).trans (hu.old b hl n2)
  obtain ⟨h3,h4⟩:=hR.zero hu2 (T':=fun k=>if s'.blk=some k then some (0,1) else T k) hT (fun k hk=>by
      by_cases e:s'.blk=some k
      ·rcases lo k e with h1 | h1
       ·exact .inl (by rw [h1];exact fun e=>by cases e)
       ·exact .inr ⟨h1,(by rw [z2'];exact (ho.lt e).2),1,if_pos e⟩
      ·rw [if_neg e] at hk;exact .inl hk) (sp':=s') (sg':=sg) (pl':=pl++[nPm cb c]) (w':={ w with pes:=w.pes++[⟨c,0,none⟩]}) c2
    (ho.congr fun b hb' _ _=>u2.old b (ho.lt hb').2 fun e=>by
      rcases lo b hb' with h1 | h1
      ·rw [e,hR.twb] at h1;cases h1
      ·have:=hR.lt wb (by rw [hR.twb];exact fun e=>by cases e)
       rw [e] at h1
       have h1:sz h≤wb:=h1
       omega) (hR.grs.congr fun b hb' _ _=>hsg b hb') (fun k hk=>if_pos hk) (fun k hk=>(hT k (by rw [hR.tsg k hk];exact fun e=>by cases e)).trans (hR.tsg k hk)) (by rw [List.map_append,hR.pes];rfl) rfl rfl rfl
    (fun i x hx=>by
      rcases Nat.lt_or_ge i pl.length with hl | hl
      ·rw [List.getElem?_append_left hl] at hx
       exact hR.cls i x hx
      ·rw [List.getElem?_append_right hl] at hx
       have:i - pl.length=0:=by
         have:=ZaT hx
         simp only [List.length_cons,List.length_nil] at this
         omega
       rw [this] at hx
       cases Option.some.inj hx
       have e:i=pl.length:=by omega
       rw [e];exact hC)
    (fun i x l br hx hr=>by
      rcases Nat.lt_or_ge i pl.length with hl | hl
      ·rw [List.getElem?_append_left hl] at hx
       exact hR.rds i x l br hx hr
      ·rw [List.getElem?_append_right hl] at hx
       have:i - pl.length=0:=by
         have:=ZaT hx
         simp only [List.length_cons,List.length_nil] at this
         omega
       rw [this] at hx
       cases Option.some.inj hx
       cases hr)
  exact hk h2 _ h3 h4
theorem WR.none0 {hs hn h':Zb} {Ts Tn:Nat→Option Nat} {S:Tk.Srv} {ps:Int→Bool} {cs:List St.Cn} (h1:Tk.Server hs Ts sb S) (h2:St.Net hn Tn nb ps cs) (e1:Ext hs hn) (hTn:∀ k,Tn k≠none→sz hs≤k) (e2:Ext hn h') {now:Int} (hc:obj h' (sz hn)=some (.cells [.pointer (some ⟨nb,0,none⟩),.pointer (some ⟨sb,0,none⟩),.bool true,slV ⟨none,0,0⟩,iv now,slV ⟨none,0,0⟩].toArray 82 (0,0))) :
    ∃ T,WR h' T (sz hn) nb sb ⟨none,0,0⟩ ⟨none,0,0⟩ [] ⟨ps,cs,S,true,[],now,[]⟩∧∀ k,T k≠none→Tn k≠none∨Ts k≠none∨k=sz hn:=by
  have ls:=ZxZ h1
  have ln:=h2.lt
  have p1:prj 1 (ZsT Tn Ts (sz hn))=Tn:=by
    funext k
    cases hk:Tn k with
    | some t=>exact Zoe (Zun hk)
    | none =>
      cases hk2:Ts k with
      | some t=>exact ZcA (Zum hk hk2) (by decide)
      | none =>
        by_cases e:k=sz hn
        ·exact ZcA ((Ziy hk hk2).trans (if_pos e)) (by decide)
        ·exact ZaV ((Ziy hk hk2).trans (if_neg e))
  have p2:prj 2 (ZsT Tn Ts (sz hn))=Ts:=by
    funext k
    cases hk:Tn k with
    | some t =>
      have l1:=hTn k (by rw [hk];exact fun e=>by cases e)
      cases hk2:Ts k with
      | none=>exact ZcA (Zun hk) (by decide)
      | some u =>
        have:=ls k (by rw [hk2];exact fun e=>by cases e)
        omega
    | none =>
      cases hk2:Ts k with
      | some t=>exact Zoe (Zum hk hk2)
      | none =>
        by_cases e:k=sz hn
        ·exact ZcA ((Ziy hk hk2).trans (if_pos e)) (by decide)
        ·exact ZaV ((Ziy hk hk2).trans (if_neg e))
  refine ⟨ZsT Tn Ts (sz hn),⟨hc,Own.nil h' 0 3,Own.nil h' 0 9,by rw [p1];exact h2.ext e2,by rw [p2];exact Tk.Zuo (Tk.Zuo h1 e1) e2,rfl,(fun i x hx=>by cases hx),(fun i x l br hx=>by cases hx),?_,(fun k hk=>by cases hk),(fun k hk=>by cases hk),fun k hk=>?_⟩,fun k hk=>?_⟩
  ·have a:Tn (sz hn)=none:=Classical.byContradiction fun e=>by
     have h9:sz hn<sz hn:=ln _ e
     omega
   have b:Ts (sz hn)=none:=Classical.byContradiction fun e=>by
     have h9:=ls _ e
     have:=e1.size
     have h8:sz hs≤sz hn:=this
     omega
   exact (Ziy a b).trans (if_pos rfl)
  ·have z1:sz hs≤sz hn:=e1.size
   have z2:sz hn≤sz h':=e2.size
   have z3:=ZT hc
   cases hk1:Tn k with
   | some t =>
     have h9:k<sz hn:=ln k (by rw [hk1];exact fun e=>by cases e)
     omega
   | none =>
     cases hk2:Ts k with
     | some t =>
       have h9:=ls k (by rw [hk2];exact fun e=>by cases e)
       omega
     | none =>
       rw [Ziy hk1 hk2] at hk
       by_cases e:k=sz hn
       ·omega
       ·rw [if_neg e] at hk;exact (hk rfl).elim
  ·cases hk1:Tn k with
   | some t=>exact .inl fun e=>by cases e
   | none =>
     cases hk2:Ts k with
     | some t=>exact .inr (.inl fun e=>by cases e)
     | none =>
       rw [Ziy hk1 hk2] at hk
       by_cases e:k=sz hn
       ·exact .inr (.inr e)
       ·rw [if_neg e] at hk;exact (hk rfl).elim
end
theorem Zs3 {α:Type} (k:Nat) (a:α):List.replicate k a++[a]=List.replicate (k+1) a:=by rw [List.replicate_succ']
theorem ZmO {h:Zb} {at_ clients tmo least most:Int} {K:Option Addr→Int→Zb→Prop} (h1:ZlX at_ clients tmo least most≠0→∀ h',Ext h h'→K none (ZlX at_ clients tmo least most) h')
    (h2:ZlX at_ clients tmo least most=0→∀ h' T wb sp,Wld h' T wb sp (ZiR at_ tmo least most clients.toNat)→Ext h h'→(∀ k,T k≠none→sz h≤k)→K (some ⟨wb,0,none⟩) 0 h'):Zbh at_ clients (tmo,least,most,()) K h:=by
  unfold Zbh Zfr
  unfold ZlX at h1 h2
  refine ZaX fun ha ca ea za=>Za ?_
  have za:sz ha=sz h+1:=za
  refine Zj (fun c=>Za ?_) (fun c1=>?_)
  ·rw [if_pos c] at h1;exact h1 (by decide) ha ea
  rw [if_neg c1] at h1 h2
  refine Zj (fun c=>Za ?_) (fun c2=>?_)
  ·rw [if_pos c] at h1;exact h1 (by decide) ha ea
  rw [if_neg c2] at h1 h2
  refine Zj (fun c=>Za ?_) (fun c3=>?_)
  ·rw [if_pos c] at h1;exact h1 (by decide) ha ea
  rw [if_neg c3] at h1 h2
  refine Zj (fun c=>Za ?_) (fun c4=>?_)
  ·rw [if_pos c] at h1;exact h1 (by decide) ha ea
  rw [if_neg c4] at h1 h2
  refine Tk.Zsi (fun e=>(e ⟨by omega,by omega⟩).elim) fun _ hb Tb sb hSb eb lb=>Za ?_
  refine St.Zll fun hc Tc hNc ec lc=>?_
  refine ZaX fun hd cd ed zd=>?_
  have leb:sz ha≤sz hb:=eb.size
  have lec:sz hb≤sz hc:=ec.size
  obtain ⟨T0,hR0,t0⟩:=WR.none0 hSb hNc ec lc ed cd
  have led:sz hc≤sz hd:=ed.size
  have low0:∀ k,T0 k≠none→sz ha≤k:=fun k hk=>by
    rcases t0 k hk with q | q | q
    ·have h9:sz hb≤k:=lc k q;omega
    ·exact lb k q
    ·omega
  refine rP (hR0.wc (j:=0) rfl) (ZaX fun he ce ee ze=>?_)
  have hRe:=hR0.ext ee
  refine St.Zjt hRe.net (St.ZiO ce) (fun k hk=>ZaV (hR0.no (by cases hk;exact Nat.le_refl _))) fun hf hNf sf=>?_
  obtain ⟨hRf,sf⟩:=hRe.netS sf hNf
  have low1:∀ k,cmb 1 T0 (prj 1 T0) k≠none→sz ha≤k:=fun k hk=>by
    rcases sf.new k hk with q | q
    ·exact low0 k q
    ·have h9:sz he≤k:=q
     have h8:sz hd≤sz he:=ee.size
     omega
  have e0f:Ext ha hf:=(((eb.trans ec).trans ed).trans ee).then sf.upd fun k hk=>low0 k hk
  have caf:=Yf ca e0f
  have cl8:(clients.toNat:Int)=clients:=by omega
  refine ZdF (I:=fun s hh=>∃ (k:Nat) (T:TT) (sp':Sl) (pl:List Pm),s=((k:Int),())∧(k:Int)≤clients∧(k≠0→ZiQ tmo least most nA=0)∧pl.length=k∧WR hh T (sz hc) _ sb sp' ⟨none,0,0⟩ pl (ZiR at_ tmo least most k)∧Ext ha hh∧∀ j,T j≠none→sz ha≤j) (fun s _=>(clients - s.1).toNat)
    ⟨0,_,⟨none,0,0⟩,[],rfl,by omega,fun e=>(e rfl).elim,rfl,hRf,e0f,low1⟩ ?_
  rintro _ hg ⟨k,T,sp',pl,rfl,hkc,hne,hpl,hR,eg,low⟩ Q hQ
  dsimp only
  have cag:=Yf ca eg
  refine Zj (fun c=>?_) (fun c=>Za ?_)
  ·refine rI (Zu cag rfl) (rI (Zu cag rfl) (rI (Zu cag rfl) ?_))
   refine Zll (by decide) (fun e hh eh=>Za (Zaw (fun _=>Za ?_) (fun e2=>(e e2).elim))) fun e hh Th cb hCh eh lh=>Za (Zaw (fun e2=>(e2 rfl).elim) fun _=>?_)
   ·exact h1 e hh ((ea.trans eg).trans eh)
   ·have W0:WOK (ZhE tmo least most nA):=WOK.new
    refine ZmE hCh W0 fun hi Ti hCi si=>?_
    have ei:Ext hg hi:=eh.then si.upd fun j hj=>lh j hj
    have li:∀ j,Ti j≠none→sz hg≤j:=fun j hj=>by
      rcases si.new j hj with q | q
      ·exact lh j q
      ·have h9:sz hh≤j:=q
       have h8:sz hg≤sz hh:=eh.size
       omega
    obtain ⟨hRi,s2⟩:=hR.tagC ei hCi li
    refine rL (hRi.wc (j:=3) rfl) (ZaX fun hj cj ej zj=>?_)
    have hRj:=hRi.ext ej
    have hCj:=hCi.ext ej
    refine (Zzh (n:=3) (l:=peL (cb,0,⟨(ZhE tmo least most nA).atS at_,0,none⟩)) cj rfl).rd ?_
    have hspl:=hRj.len
    have hpe:(ZiR at_ tmo least most k).pes.length=k:=List.length_replicate
    rw [hpe] at hspl
    refine Own.app hRj.row rfl (by simp only [peL,rdA,List.all_cons,List.all_nil,Y4,ZhD];rfl) rfl (by omega) (by omega) (Nat.zero_le _) fun s' hk ho' hl' hu' hblk=>?_
    refine hRj.addP (c:=(ZhE tmo least most nA).atS at_) (by rw [Zhz];exact hCj) (by rw [List.flatMap_append,List.flatMap_cons,List.flatMap_nil,List.append_nil];exact ho') hu' hblk fun hl Tl hRl sl=>?_
    have st:=(s2.ext ej).trans sl
    have ekk:IntKind.wrap .i64 ((k:Int)+1)=((k+1:Nat):Int):=wrS (n:=8) (by omega) (by decide)
    have hRl':WR hl Tl (sz hc) (Array.size hb+1) sb s' ⟨none,0,0⟩ (pl++[nPm cb ((ZhE tmo least most nA).atS at_)]) (ZiR at_ tmo least most (k+1)):=by
      have e:({ ZiR at_ tmo least most k with pes:=(ZiR at_ tmo least most k).pes++[⟨(ZhE tmo least most nA).atS at_,0,none⟩]}:Cu)=ZiR at_ tmo least most (k+1):=by unfold ZiR;simp only [Zzj];rw [Zs3]
      rw [← e];exact hRl
    rw [ekk]
    refine hQ _ _ ⟨k+1,Tl,s',_,rfl,by omega,fun _=>e,by rw [List.length_append,hpl];rfl,hRl',eg.then st.upd fun j hj=>low j hj,fun j hj=>?_⟩ (by dsimp only;omega)
    rcases st.new j hj with q | q
    ·exact low j q
    ·have h9:sz hg≤j:=q
     have h8:sz ha≤sz hg:=eg.size
     omega
  ·have ek:k=clients.toNat:=by omega
   rw [hne (by omega)] at h2
   rw [← ek] at h2
   exact h2 rfl hg T (sz hc) sp' ⟨_,sb,_,pl,hR⟩ (ea.trans eg) fun j hj=>by have:=low j hj;omega
end Go.Proofs.YtbppjmcinoffnaaGreat
namespace Go.Proofs.YtbppjmcinoffnaaGreat
open Go Go.Fw
open Nat (reduceAdd reduceLT reduceLeDiff reduceEqDiff reduceMul)
open Tk (Zu rI rB rS rP rM rL Zif Zac held1 Zbr wrS nA F4 f4L Y8 Ze8)
theorem Zrp {tmo least most:Int} (h:ZiQ tmo least most nA=0):On2 (ZhE tmo least most nA) 0 :=
  ⟨WOK.new,NOK.new h,rfl,List.Pairwise.nil,Int.le_refl _,Nat.zero_le _,Nat.zero_le _,Nat.zero_le _⟩
theorem Zj2 {at_ clients tmo least most:Int} (h:ZlX at_ clients tmo least most=0):(0≤at_∧at_≤1152921504606846976)∧(1≤clients∧clients≤8)∧ZiQ tmo least most nA=0:=by
  unfold ZlX at h
  split at h
  ·cases h
  ·split at h
   ·cases h
   ·split at h
    ·cases h
    ·split at h
     ·cases h
     ·exact ⟨by omega,by omega,h⟩
theorem SOK.new (at_:Int):SOK (Tk.Zln at_):=⟨Nat.zero_le _,fun x hx=>by cases hx⟩
theorem ZbK.new {at_ clients tmo least most:Int} (h:ZlX at_ clients tmo least most=0):ZbK tmo (ZiR at_ tmo least most clients.toNat) 0:=by
  obtain ⟨h1,h2,h3⟩:=Zj2 h
  refine ⟨(fun c j hc=>by cases hc),Nat.zero_le _,SOK.new at_,Nat.zero_le _,h1,?_,fun i p hp=>?_⟩
  ·show (List.replicate clients.toNat _).length≤8
   rw [List.length_replicate];omega
  ·have hp:(List.replicate clients.toNat (Zzj tmo least most at_))[i]?=some p:=hp
   have:p=Zzj tmo least most at_:=List.eq_of_mem_replicate (List.mem_of_getElem? hp)
   subst this
   exact ⟨(Zrp h3).atS at_,(Zmc _ _).2 h1.1,(Zmc _ _).1,fun e=>(e rfl).elim,fun _=>rfl,fun e=>(e rfl).elim⟩
theorem SOK.loaded {at_:Int} {fl:List F4} (hl:Ze8 (Tk.Zln at_) nA fl):SOK ((Tk.Zln at_).loaded nA fl):=by
  obtain ⟨hn,hr,⟨nd,_⟩,_⟩:=hl
  have hcs:=Tk.Zpp fl { Tk.Zln at_ with spaces:=(Tk.Zln at_).spaces++[(nA,fl)]} nd (fun f hf=>rfl)
  obtain ⟨b1,b2,b3,b4,b5,b6,b7⟩:=Tk.Znw fl { Tk.Zln at_ with spaces:=(Tk.Zln at_).spaces++[(nA,fl)]}
  have hld:(Tk.Zln at_).loaded nA fl={ Tk.Zln at_ with spaces:=(Tk.Zln at_).spaces++[(nA,fl)]}.freshL fl:=rfl
  rw [← hld] at hcs b1 b4
  refine ⟨by rw [b4];exact Nat.zero_le _,fun x hx f hf=>?_⟩
  rw [b1] at hx
  have:x=(nA,fl):=by simpa [Tk.Zln] using hx
  subst this
  refine ⟨_,hcs f hf,Tk.Zi5 ?_⟩
  have:=List.any_eq_false.1 hr f hf
  simpa using this
section
variable {h h':Zb} {T:TT} {wb:Nat} {sp:Sl} {w:Cu}
theorem Zki (hW:Wld h T wb sp w) {at_:Int} (hw:w.srv=Tk.Zln at_) {s:Sl} {fl:List F4} (hr:Row h s 4 (fl.flatMap f4L)) (hfl:fl.length≤1099511627776) (hsl:fl.flatMap f4L≠[]→∀ k,s.blk=some k→T k=none∧k<sz h) {K:Int→Zb→Prop}
    (hk1:∀ e h',e≠0→¬ Ze8 w.srv nA fl→Wld h' T wb sp w→Zax T T h h'→K e h') (hk2:Ze8 w.srv nA fl→∀ h' T',Wld h' T' wb sp { w with srv:=w.srv.loaded nA fl }→Zax T T' h h'→K 0 h'):Yt (some ⟨wb,0,none⟩) s K h:=by
  unfold Yt ZbD
  obtain ⟨nb,sb,sg,pl,hR⟩:=hW
  refine Za (Zl (Zg (rP (hR.wc (j:=1) rfl) ?_)))
  refine Tk.Zsq hR.srv (name:=nA) (by decide) (by rw [hw];rfl) (by rw [hw];exact Nat.zero_le _) hr hfl (fun hne k hk=>⟨ZaV (hsl hne k hk).1,(hsl hne k hk).2⟩) (fun e h' he hl ex=>Za ?_) (fun hl h' T' hn st=>Za ?_)
  ·exact hk1 e h' he hl ⟨nb,sb,sg,pl,hR.ext ex⟩ ((Zax.refl T h).ext ex)
  ·obtain ⟨hR',s'⟩:=hR.srvS st hn
   exact hk2 hl h' _ (hR'.to rfl) s'
theorem Zof (hW:Wld h T wb sp w) {K:Int→Zb→Prop} (hk:K w.now h):XS (some ⟨wb,0,none⟩) K h:=by
  unfold XS Zb2
  obtain ⟨nb,sb,sg,pl,hR⟩:=hW
  exact Za (Zl (Zg (rI (hR.wc (j:=4) rfl) (Za hk))))
theorem ZnI (hW:Wld h T wb sp w) {i:Int} {K:Option Addr→Zb→Prop} (h1:i<0∨i≥w.pes.length→K none h)
    (h2:∀ (k:Nat) (p:Pe) (cb:Nat),i=(k:Int)→w.pes[k]?=some p→Client h (prj (3+2*k) T) cb p.cl→(∀ h' T',Client h' T' cb p.cl→True)→K (some ⟨cb,0,none⟩) h):Yg (some ⟨wb,0,none⟩) i K h:=by
  unfold Yg XZ
  refine ZiM hW (fun e=>Zl (h1 e)) (fun k p b hi hp hb=>ZF (Zg ?_))
  obtain ⟨nb,sb,sg,pl,hR⟩:=hW
  obtain ⟨cb,rb,hx⟩:=hR.pe2 hp
  exact rP (hR.pc hx hb (j:=0) (by decide) rfl) (h2 k p cb hi hp (hR.cls k _ hx) fun _ _ _=>trivial)
theorem ZqC (hW:Wld h T wb sp w) {i:Int} {K:Sl→Zb→Prop} (hcl:∀ (i:Nat) (p:Pe),w.pes[i]?=some p→WOK p.cl) (h1:i<0∨i≥w.pes.length→K ⟨none,0,0⟩ h)
    (h2:∀ (k:Nat) (p:Pe) (s:Sl) (h':Zb),i=(k:Int)→w.pes[k]?=some p→Own h' h.size s 1 ((p.cl.waits.map (·.1)).map iv)→Ext h h'→K s h'):YD (some ⟨wb,0,none⟩) i K h:=by
  unfold YD ZaQ
  refine ZnI hW (fun e=>?_) (fun k p cb hi hp hC _=>?_)
  ·unfold Zi Zah
   exact ZF (h1 e)
  ·obtain ⟨rb,mb,so,st,sb,hR⟩:=hC
   have hw:=hcl k p hp
   refine Zf1 hR hw.asc (fun q hq=>by have:=hw.ids q hq;have:=hw.next;omega) (by have:=hw.sum;omega) fun s h' o e=>h2 k p s h' hi hp o e
theorem ZqN (hW:Wld h T wb sp w) {i:Nat} {p:Pe} (hp:w.pes[i]?=some p) {K:Sl→Zb→Prop}
    (hk:∀ s h' T',Row h' s 7 (p.cl.told.flatMap tC)→Wld h' T' wb sp (w.setP i { p with cl:={ p.cl with told:=[]}})→Zax T T' h h'→K s h'):XC (some ⟨wb,0,none⟩) (i:Int) K h:=by
  unfold XC ZbC Yg XZ
  have hlt:=ZaT hp
  refine ZiM hW (fun e=>by omega) (fun k q b hi hq hb=>ZF (Zg ?_))
  have ek:k=i:=by omega
  subst ek
  rw [hp] at hq
  cases Option.some.inj hq
  obtain ⟨nb,sb,sg,pl,hR⟩:=hW
  obtain ⟨cb,rb,hx⟩:=hR.pe2 hp
  refine rP (hR.pc hx hb (j:=0) (by decide) rfl) ?_
  refine Zsh (hR.cls k _ hx) fun s h' T' o _ hC st=>?_
  obtain ⟨hR',s'⟩:=hR.clS hx st hC
  exact hk s h' _ o.row (hR'.to rfl) s'
theorem Znu (hW:Wld h T wb sp w) (hg:w.grs.length≤137438953472) {K:Sl→Zb→Prop} (hk:∀ s h',Own h' h.size s 9 (w.grs.flatMap gtL)→Ext h h'→K s h'):Xg (some ⟨wb,0,none⟩) K h:=by
  unfold Xg Zbb
  obtain ⟨nb,sb,sg,pl,hR⟩:=hW
  refine Zl (Zg (rL (hR.wc (j:=5) rfl) ?_))
  unfold Z8 YB
  have hl:=hR.grs.len
  rw [Yc ZkZ] at hl
  cases hp:sg.ptr with
  | none =>
    refine ZF ?_
    have h0:w.grs=[]:=by
      have hsl:sg.len=0:=by
        rcases hR.grs.at_ with ⟨_,h9⟩ | ⟨b,c,e,h9,_⟩
        ·have:=hR.grs.cap;omega
        ·rw [hp] at h9;cases h9
      exact List.eq_nil_of_length_eq_zero (by omega)
    rw [h0] at hk
    exact hk _ _ (Own.nil h h.size 9) (Ext.refl h)
  | some a =>
    refine Zl ?_
    refine ZH0 9 fun h1 o1 e1 z1=>?_
    refine (hR.grs.row.ext e1).rd ?_
    refine Own.app o1 (by rw [Yc ZkZ];omega) ?_ rfl (by show (0+sg.len)*80≤_;omega) (by show 0+sg.len≤_;omega) (by omega) fun s' h' o' l' u' b'=>?_
    ·rw [List.all_eq_true]
     intro v hv
     obtain ⟨g,_,hg⟩:=List.mem_flatMap.1 hv
     simp only [gtL,List.mem_cons,List.not_mem_nil,or_false] at hg
     rcases hg with rfl | rfl | rfl | rfl | rfl | rfl | rfl | rfl | rfl<;>first | exact Y4 | exact Zgt
    ·exact hk s' h' (by simpa using o') (e1.then u' fun k hk=>by cases hk;exact Nat.le_refl _)
end
end Go.Proofs.YtbppjmcinoffnaaGreat
namespace Go.Proofs.YtbppjmcinoffnaaGreat
open Go Go.Fw
open Nat (reduceAdd reduceLT reduceLeDiff reduceEqDiff reduceMul)
open Tk (Zu rI rB rS rP rM rL Zif Zac held1 Zbr wrS nA F4 f4L Ze8)
def opL (o:Op):List Value:=[.int .u8 o.1,iv o.2.1,iv o.2.2.1,iv o.2.2.2.1,iv o.2.2.2.2.1,.int .u8 o.2.2.2.2.2.1,iv o.2.2.2.2.2.2.1,iv o.2.2.2.2.2.2.2.1,.string o.2.2.2.2.2.2.2.2.1,iv o.2.2.2.2.2.2.2.2.2.1]
theorem ZiN (o:Op):(opL o).length=10:=rfl
structure ZuL (o:Op):Prop where
  kind:0≤o.1∧o.1<256
  text:o.2.2.2.2.2.2.2.2.1.size<9223372036854775808
def Cu.runR (w:Cu):List Op→List Int × Cu
  | []=>([],w)
  | o::r=>((w.doR o).1.2.2::(Cu.runR (w.doR o).2 r).1,(Cu.runR (w.doR o).2 r).2)
theorem ZgY:∀ (l:List Op) (w:Cu) (k:Nat) (o:Op),l[k]?=some o→w.runR (l.take (k+1))=((w.runR (l.take k)).1++[((w.runR (l.take k)).2.doR o).1.2.2],((w.runR (l.take k)).2.doR o).2)
  | [],_,_,_,h=>by cases h
  | a::l,w,0,o,h=>by
    cases Option.some.inj h
    rfl
  | a::l,w,k+1,o,h=>by
    have ih:=ZgY l (w.doR a).2 k o h
    rw [List.take_succ_cons,List.take_succ_cons]
    show (_::(Cu.runR (w.doR a).2 (l.take (k+1))).1,(Cu.runR (w.doR a).2 (l.take (k+1))).2)=_
    rw [ih]
    rfl
theorem ZbK.run {tmo:Int}:∀ {l:List Op} {w:Cu} {n:Nat},ZbK tmo w n→n+l.length≤1000→ZbK tmo (w.runR l).2 (n+l.length)
  | [],_,_,h,_=>h
  | o::l,w,n,h,hn=>by
    rw [List.length_cons] at hn ⊢
    have:=ZbK.run (l:=l) (h.do (by omega) o) (by omega)
    have e:n+(l.length+1)=n+1+l.length:=by omega
    rw [e]
    exact this
section
variable {h h':Zb} {T:TT} {wb:Nat} {sp:Sl} {w:Cu}
theorem Zs0 (hW:Wld h T wb sp w) {tmo:Int} {n:Nat} (hC:ZbK tmo w n) {s:Sl} {l:List Op} (hr:Row h s 10 (l.flatMap opL)) (hT:∀ k,s.blk=some k→T k=none∧k<sz h) (hok:∀ o,o∈l→ZuL o) (hl:l.length≤100) (hn:n+l.length≤1000) {K:Sl→Zb→Prop}
    (hk:∀ out h' T',Row h' out 1 ((w.runR l).1.map iv)→Wld h' T' wb sp (w.runR l).2→Zax T T' h h'→(∀ k,out.blk=some k→T' k=none)→K out h'):XR (some ⟨wb,0,none⟩) s K h:=by
  unfold XR Zb1
  have hsl:s.len=l.length:=by
    have:=hr.len
    rw [Yc ZiN] at this
    omega
  refine ZdF (I:=fun st hh=>∃ (k:Nat) (T':TT) (out:Sl),st=(out,(k:Int),())∧k≤l.length∧Wld hh T' wb sp (w.runR (l.take k)).2∧Zax T T' h hh∧Own hh (sz h) out 1 ((w.runR (l.take k)).1.map iv)∧out.len=k∧∀ j,out.blk=some j→T' j=none) (fun st _=>l.length - st.2.1.toNat)
    ⟨0,T,⟨none,0,0⟩,rfl,Nat.zero_le _,hW,Zax.refl _ _,Own.nil h (sz h) 1,rfl,fun j hj=>by cases hj⟩ ?_
  rintro _ h2 ⟨k,T2,out,rfl,hkl,hW2,s2,o2,hol,n2⟩ Q hQ
  dsimp only
  refine Zj (fun c=>?_) (fun c=>?_)
  ·have hkl2:k<l.length:=by omega
   have ho:l[k]?=some l[k]:=List.getElem?_eq_getElem hkl2
   have hom:l[k]∈l:=List.getElem_mem hkl2
   generalize l[k]=o at ho hom
   obtain ⟨ok1,ok2⟩:=hok o hom
   have hr2:Row h2 s 10 (l.flatMap opL):=hr.congr fun b i hp _ _=>by
     have hb:s.blk=some b:=by simp [Sl.blk,hp]
     obtain ⟨t1,t2⟩:=hT b hb
     exact s2.upd.old b t2 fun e=>e t1
   obtain ⟨b,i,_,_,hidx,hc⟩:=Zbr ZiN hr2 ho (by decide)
   refine hidx rfl ?_
   refine rI (hc 0 _ rfl) (rI (hc 1 _ rfl) (rI (hc 2 _ rfl) (rI (hc 3 _ rfl) (rI (hc 4 _ rfl) (rI (hc 5 _ rfl) (rI (hc 6 _ rfl) (rI (hc 7 _ rfl) (rS (hc 8 _ rfl) (rI (hc 9 _ rfl) ?_)))))))))
   refine ZaX fun h3 c3 e3 z3=>Za ?_
   refine ZsV (vs:=opL o) c3 rfl (by simp only [opL,List.all_cons,List.all_nil,Y4,Zgt];rfl) rfl fun h4 c4 u4 z4=>Za ?_
   have e4:Ext h2 h4:=e3.then u4 fun k hk=>by rw [hk];exact Nat.le_refl _
   refine Zbi (decide_eq_true (by omega)) ?_
   refine rI (Zu c4 rfl) (rI (Zu c4 rfl) (rI (Zu c4 rfl) (rI (Zu c4 rfl) (rI (Zu c4 rfl) (rI (Zu c4 rfl) (rI (Zu c4 rfl) (rI (Zu c4 rfl) (rS (Zu c4 rfl) (rI (Zu c4 rfl) ?_)))))))))
   have hC2:=hC.run (l:=l.take k) (by rw [List.length_take];omega)
   have hlt:(l.take k).length=k:=by rw [List.length_take];omega
   rw [hlt] at hC2
   refine ZrW (hW2.ext e4) hC2 (by omega) (o:=o) ok1 ok2 fun h5 T5 hW5 s5=>Za ?_
   refine ZaX fun h6 c6 e6 z6=>(Zzh (n:=1) (l:=[iv _]) c6 rfl).rd ?_
   have es:=ZgY l w k o ho
   have o5:Own h6 (sz h) out 1 ((w.runR (l.take k)).1.map iv):=o2.congr fun b hb hlt _=>(e6.old b (Nat.lt_of_lt_of_le hlt (Nat.le_trans e4.size s5.upd.size))).trans ((s5.upd.old b (Nat.lt_of_lt_of_le hlt e4.size) fun e=>e (n2 b hb)).trans (e4.old b hlt))
   have zle:sz h≤sz h6:=Nat.le_trans s2.upd.size (Nat.le_trans e4.size (Nat.le_trans s5.upd.size e6.size))
   refine Own.app o5 rfl rfl rfl (by omega) (by omega) zle fun out' h7 o7 l7 u7 b7=>?_
   have n5:∀ j,out.blk=some j→T5 j=none:=fun j hj=>s5.none_ (n2 j hj) (Nat.lt_of_lt_of_le (o2.lt hj).2 e4.size)
   rw [wrS hkl2 (by omega)]
   refine hQ _ _ ⟨k+1,T5,out',rfl,hkl2,?_,((s2.trans (Zax.pre e4 s5)).ext e6).also u7 fun j hj=>(o2.lt hj).1,?_,by omega,fun j hj=>?_⟩ (by dsimp only;omega)
   ·rw [es]
    exact (hW5.ext e6).upd u7 fun j hj=>n5 j hj
   ·rw [es,List.map_append]
    exact o7
   ·rcases b7 with e | e
    ·rw [e] at hj;exact n5 j hj
    ·rw [e] at hj
     cases hj
     exact hW5.no e6.size
  ·have e:k=l.length:=by omega
   subst e
   rw [List.take_length] at hW2 o2
   exact hk out h2 T2 o2.row hW2 s2 n2
end
end Go.Proofs.YtbppjmcinoffnaaGreat
namespace Go.Proofs.YtbppjmcinoffnaaGreat
open Go Go.Fw
open Nat (reduceAdd reduceLT reduceLeDiff reduceEqDiff reduceMul)
open Tk (nA F4 f4L Ze8)
def lvF:F4:=(1,2,1,0,())
def lvR:Rq:=(0,1,1,2,ByteArray.mk #[],0,())
def lv1:Op:=(1,0,2000000,0,0,0,0,0,ByteArray.mk #[],0,())
def lv2:Op:=(3,0,0,0,0,0,0,0,ByteArray.mk #[],0,())
def lv3:Op:=(2,0,0,0,lvR)
def lv5:Op:=(4,0,0,1000,0,0,0,0,ByteArray.mk #[],0,())
def lv6:Op:=(5,0,0,1000,0,0,0,0,ByteArray.mk #[],0,())
def lvW:Cu:={ ZiR 0 1000000 1 2 1 with srv:=(Tk.Zln 0).loaded nA [lvF]}
def Zj5:Cu:=(lvW.runR [lv1,lv2,lv3,lv3]).2
theorem ZH1:(lvW.runR [lv1,lv2,lv3,lv3]).1=[0,0,0,0]:=by kernel_rfl
def Zrs:List (List UInt8):=[ZkP (Zmh nA),ZkP (ZkI lvR 1),ZkP (ZkI lvR 2)]
def ZpE:List (List UInt8):=[ZyQ (0,1,0,0,0,()),ZyQ (1,1,0,0,0,()),ZyQ (2,2,0,0,0,())]
def lvP (w:Cu):Pe:=match w.pes[0]? with
  | some p=>p
  | none=>⟨ZhE 0 0 0 nA,0,none⟩
theorem ZDz:Zj5.pes[0]?=some (lvP Zj5):=by kernel_rfl
theorem ZDB:Zj5.mvE (lvP Zj5) 1000=0:=by kernel_rfl
theorem ZDw:(lvP Zj5).rd=some ([],false):=by kernel_rfl
theorem ZDF:(Zj5.moved (lvP Zj5).conn 0 1000).1=fr Zrs:=by kernel_rfl
def Ztj:Cu:={ Zj5 with cs:=(Zj5.moved (lvP Zj5).conn 0 1000).2,pes:=Zj5.pes.set 0 { lvP Zj5 with rd:=some ([],false)}}
def Zhn:Cu:=(Ztj.serveL 0 (lvP Zj5).conn Zrs).2
theorem ZDv:(Ztj.serveL 0 (lvP Zj5).conn Zrs).1=true:=by kernel_rfl
theorem ZD9 (l:List UInt8) (h:decide (1≤l.length)&&decide (l.length≤4096)=true):ZmS l:=by
  simp only [Bool.and_eq_true,decide_eq_true_eq] at h
  exact h
theorem Zyl:ZgR (fr Zrs)=(Zrs,false,[]):=ZnG Zrs fun l hl=>by
  simp only [Zrs,List.mem_cons,List.not_mem_nil,or_false] at hl
  rcases hl with rfl | rfl | rfl<;>exact ZD9 _ (by kernel_rfl)
theorem ZH3:Zj5.doR lv5=((0,false,0),Zhn):=by
  have e1:Zj5.doR lv5=res (Zj5.toSrvR 0 1000):=by
    unfold Cu.doR
    rw [if_neg (by decide),if_neg (by decide),if_pos (by decide),if_neg (by decide),if_neg (by decide)]
    rfl
  rw [e1]
  unfold Cu.toSrvR
  rw [ZDz]
  dsimp only
  rw [if_neg (fun h=>h ZDB),ZDw]
  dsimp only
  rw [ZDF]
  have e2:putS [] false (fr Zrs)=(Zrs,false,[]):=Zyl
  rw [e2]
  show res (0,if (Ztj.serveL 0 (lvP Zj5).conn Zrs).1=true∧false=false then (Ztj.serveL 0 (lvP Zj5).conn Zrs).2 else _)=_
  rw [if_pos ⟨ZDv,rfl⟩]
  rfl
theorem ZDy:Zhn.pes[0]?=some (lvP Zhn):=by kernel_rfl
theorem ZDA:Zhn.mvE (lvP Zhn) 1000=0:=by kernel_rfl
theorem ZDE:(Zhn.moved (lvP Zhn).conn 1 1000).1=fr ZpE:=by kernel_rfl
theorem ZvZ:ZgR (fr ZpE)=(ZpE,false,[]):=ZnG ZpE fun l hl=>by
  simp only [ZpE,List.mem_cons,List.not_mem_nil,or_false] at hl
  rcases hl with rfl | rfl | rfl<;>exact ZD9 _ (by kernel_rfl)
def Ztk:Cl:={ (lvP Zhn).cl.tick Zhn.now with rb:=[],broken:=false }
def ZEa:Cl:=(Ztk.take ZpE).1
theorem ZDu:(Ztk.take ZpE).2=false:=by kernel_rfl
theorem ZDC:(lvP Zhn).cl.atE Zhn.now=0:=by kernel_rfl
theorem ZDt:(lvP Zhn).cl.up=true:=by kernel_rfl
theorem Zyj:((lvP Zhn).cl.tick Zhn.now).rb=[]∧((lvP Zhn).cl.tick Zhn.now).broken=false:=⟨by kernel_rfl,by kernel_rfl⟩
theorem ZDD:(lvP Zhn).cl.bytesR Zhn.now (fr ZpE)=(ZEa,0):=by
  unfold Cl.bytesR
  rw [if_pos ZDC,if_pos ZDt]
  unfold Cl.putB
  rw [Zyj.1,Zyj.2]
  have e2:putS [] false (fr ZpE)=(ZpE,false,[]):=ZvZ
  dsimp only
  rw [e2]
  show (if (if (Ztk.take ZpE).2=true then 50 else if false=true then 50 else 0:Int)=0 then (Ztk.take ZpE).1 else _,_)=_
  rw [ZDu]
  rfl
def ZDG:Cu:={ Zhn with cs:=(Zhn.moved (lvP Zhn).conn 1 1000).2,pes:=Zhn.pes.set 0 { lvP Zhn with cl:=ZEa }}
def Zrr:Cu:=ZDG.sends 0
theorem ZvY:Zhn.pes.length=1:=by kernel_rfl
theorem ZH2:Zhn.doR lv6=((0,false,0),Zrr):=by
  have e1:Zhn.doR lv6=res (Zhn.toClR 0 1000):=by
    unfold Cu.doR
    rw [ZvY,if_neg (by decide),if_neg (by decide),if_pos (by decide),if_neg (by decide),if_neg (by decide)]
    rfl
  rw [e1]
  unfold Cu.toClR
  rw [ZDy]
  dsimp only
  rw [if_neg (fun h=>h ZDA),ZDE,if_neg (by intro h;have:=congrArg List.length h;revert this;decide),ZDD]
  rfl
def lvT (i:Nat):Tld:=match (lvP Zrr).cl.told[i]? with
  | some t=>t
  | none=>ZgI 0
theorem ZDx:Zrr.pes[0]?=some (lvP Zrr):=by kernel_rfl
theorem ZvX:(lvP Zrr).cl.told=[lvT 0,lvT 1]:=by kernel_rfl
theorem Zyh:(lvT 0).a.2.1=1∧(lvT 1).a.2.1=2:=⟨by kernel_rfl,by kernel_rfl⟩
theorem Zyk:Zrr.grs.length=1:=by kernel_rfl
def lvL:List Op:=[lv1,lv2,lv3,lv3,lv5,lv6]
theorem Zyi:lvW.runR lvL=([0,0,0,0,0,0],Zrr):=by
  have h1:=ZgY lvL lvW 4 lv5 rfl
  have h2:=ZgY lvL lvW 5 lv6 rfl
  have e0:lvW.runR (lvL.take 4)=([0,0,0,0],Zj5):=Prod.ext ZH1 rfl
  have h1:lvW.runR (lvL.take 5)=([0,0,0,0]++[0],Zhn):=by
    rw [h1,e0]
    dsimp only
    rw [ZH3]
  have h2:lvW.runR (lvL.take 6)=([0,0,0,0]++[0]++[0],Zrr):=by
    rw [h2,h1]
    dsimp only
    rw [ZH2]
  exact h2
theorem Zuw:ZlX 0 1 1000000 1 2=0:=by kernel_rfl
theorem Zrq:Ze8 (Tk.Zln 0) nA [lvF]:=⟨by kernel_rfl,by kernel_rfl,⟨by decide,fun f hf ⟨x,hx,_⟩=>by cases hx⟩,by kernel_rfl⟩
end Go.Proofs.YtbppjmcinoffnaaGreat
namespace Go.Proofs.YtbppjmcinoffnaaGreat
open Go Go.Fw
open Nat (reduceAdd reduceLT reduceLeDiff reduceEqDiff reduceMul)
open Tk (Zu rI rB rS rP rM rL Zif Zac held1 Zbr wrS nA F4 f4L Ze8)
theorem ZHZ {h:Zb} {b k n:Nat} {l:List Value} {t:TypeId} {f:Nat × Nat} (c:obj h b=some (.cells l.toArray t f)) (hl:l.length=k*n) (hk:k<9223372036854775808):Row h ⟨some ⟨b,0,none⟩,k,k⟩ n l :=
  ⟨hl,Nat.le_refl _,hk,.inr ⟨b,0,rfl,Zav c fun i v hi=>by simpa using hi⟩⟩
theorem ZiW {h:Zb} {K:Bool→Zb→Prop} (hk:∀ h',Ext h h'→K true h'):X6 K h:=by
  unfold X6 Zcj
  refine ZmO (fun e=>(e Zuw).elim) fun _ h2 T wb sp hW e2 low=>Za (Zaw (fun e=>(e rfl).elim) fun _=>Zl ?_)
  have lz:=e2.size
  refine ZaX fun h3 c3 e3 z3=>?_
  have nf:∀ k,(⟨some ⟨h2.size,0,none⟩,1,1⟩:Sl).blk=some k→T k=none∧k<sz h3:=fun k hk=>by cases hk;exact ⟨hW.no (Nat.le_refl _),by have h9:sz h3=sz h2+1:=z3;show sz h2<sz h3;omega⟩
  refine Zki (hW.ext e3) (at_:=0) rfl (fl:=[lvF]) (Zzh (n:=4) c3 rfl) (by decide) (fun _=>nf) (fun e h' _ hn _ _=>(hn Zrq).elim) fun _ h5 T5 hW5 s5=>Za ?_
  have e5:Ext h h5:=(e2.trans e3).then s5.upd fun k hk=>low k hk
  have low5:∀ k,T5 k≠none→sz h≤k:=fun k hk=>by
    rcases s5.new k hk with q | q
    ·exact low k q
    ·have h9:sz h3≤k:=q
     have h8:sz h≤sz h3:=(e2.trans e3).size
     omega
  refine ZaX fun h7 c7 e7 z7=>ZsV (vs:=opL lv3) c7 rfl (by simp only [opL,List.all_cons,List.all_nil,Y4,Zgt];rfl) rfl fun h8 c8 u8 z8=>?_
  have e8:Ext h5 h8:=e7.then u8 fun k hk=>by rw [hk];exact Nat.le_refl _
  refine rI (Zu c8 rfl) (rI (Zu c8 rfl) (rI (Zu c8 rfl) (rI (Zu c8 rfl) (rI (Zu c8 rfl) (rI (Zu c8 rfl) (rI (Zu c8 rfl) (rI (Zu c8 rfl) (rS (Zu c8 rfl) (rI (Zu c8 rfl) ?_)))))))))
  refine rI (Zu c8 rfl) (rI (Zu c8 rfl) (rI (Zu c8 rfl) (rI (Zu c8 rfl) (rI (Zu c8 rfl) (rI (Zu c8 rfl) (rI (Zu c8 rfl) (rI (Zu c8 rfl) (rS (Zu c8 rfl) (rI (Zu c8 rfl) ?_)))))))))
  refine ZaX fun h9 c9 e9 z9=>?_
  have hW9:Wld h9 T5 wb sp lvW:=(hW5.ext e8).ext e9
  have hC9:ZbK 1000000 lvW 0:=((ZbK.new Zuw).srvs (SOK.loaded Zrq))
  have hr9:Row h9 ⟨some ⟨h8.size,0,none⟩,6,6⟩ 10 (lvL.flatMap opL):=ZHZ c9 rfl (by decide)
  have e59:Ext h h9:=(e5.trans e8).trans e9
  refine Zs0 hW9 hC9 hr9 (fun k hk=>by cases hk;exact ⟨hW5.no (by have h9:=e8.size;exact h9),by have q9:sz h9=sz h8+1:=z9;show sz h8<sz h9;omega⟩) (fun o ho=>by
    simp only [lvL,List.mem_cons,List.not_mem_nil,or_false] at ho
    rcases ho with rfl | rfl | rfl | rfl | rfl | rfl<;>exact ⟨by decide,by decide⟩) (by decide) (by decide) fun out h32 T32 o32 hW32 s32 n32=>?_
  rw [Zyi] at o32 hW32
  dsimp only at o32 hW32
  have e32:Ext h h32:=e59.then s32.upd fun k hk=>low5 k hk
  have low32:∀ k,T32 k≠none→sz h≤k:=fun k hk=>by
    rcases s32.new k hk with q | q
    ·exact low5 k q
    ·have h8:sz h9≤k:=q
     have h7:sz h≤sz h9:=e59.size
     omega
  have hol:out.len=6:=by
    have:=o32.len
    simpa using this.symm
  refine Za ?_
  refine ZdF (I:=fun s hh=>hh=h32∧∃ k:Nat,s=((k:Int),())∧k≤6) (fun s _=>6 - s.1.toNat) ⟨rfl,0,rfl,by decide⟩ ?_
  rintro _ h35 ⟨rfl,k,rfl,hk6⟩ Q hQ
  dsimp only
  refine Zj (fun c=>?_) (fun c=>?_)
  ·have hk5:k<6:=by omega
   have hv:([0,0,0,0,0,0].map iv)[k]?=some (iv 0):=by
     have:k=0∨k=1∨k=2∨k=3∨k=4∨k=5:=by omega
     rcases this with rfl | rfl | rfl | rfl | rfl | rfl<;>rfl
   refine o32.idx (n:=k) rfl hv fun b o _ hc=>?_
   refine ⟨0,hc,Zaw (fun e=>(e rfl).elim) fun _=>Za ?_⟩
   rw [wrS (n:=6) hk5 (by decide)]
   exact hQ _ _ ⟨rfl,k+1,rfl,hk5⟩ (by dsimp only;omega)
  ·refine ZqN hW32 (i:=0) ZDx fun s h40 T40 r40 hW40 s40=>?_
   rw [ZvX] at r40
   have hsl:s.len=2:=by
     have:=r40.len
     rw [Yc ZlN] at this
     simp only [List.length_cons,List.length_nil] at this
     omega
   have e40:Ext h h40:=e32.then s40.upd fun k hk=>low32 k hk
   refine Zj (fun _=>?_) (fun e=>(e rfl).elim)
   refine Zj (fun _=>?_) (fun e=>(e (by rw [hol];rfl)).elim)
   refine Zj (fun _=>?_) (fun e=>(e (by rw [hsl];rfl)).elim)
   obtain ⟨b0,o0,_,_,hi0,hc0⟩:=Zbr ZlN r40 (i:=0) rfl (by decide)
   obtain ⟨b1,o1,_,_,hi1,hc1⟩:=Zbr ZlN r40 (i:=1) rfl (by decide)
   refine hi0 rfl (rI (hc0 2 _ rfl) (Zj (fun _=>hi1 rfl (rI (hc1 2 _ rfl) (Zj (fun _=>?_) (fun e=>(e Zyh.2).elim)))) (fun e=>(e Zyh.1).elim)))
   have eg:(Zrr.setP 0 { lvP Zrr with cl:={ (lvP Zrr).cl with told:=[]}}).grs.length=1:=Zyk
   refine Znu hW40 (by rw [eg];decide) fun sg h48 og e48=>?_
   have hgl:sg.len=1:=by
     have:=og.len
     rw [Yc ZkZ,eg] at this
     omega
   rw [Yz,hgl]
   exact hk h48 (e40.trans e48)
end Go.Proofs.YtbppjmcinoffnaaGreat
namespace Go.Proofs.YtbppjmcinoffnaaGreat
open Go Go.Fw
open Nat (reduceAdd reduceLT reduceLeDiff reduceEqDiff reduceMul)
open Tk (Zu rI rB rS rP rM rL Zif Zac held1 Zbr wrS nA F4 f4L Y8 Ze8)
theorem ZoN {tmo:Int} {w:Cu} {n:Nat} (h:ZbK tmo w n) {at_:Int} (he:w.tickE at_=0) (ha:w.now+tmo≤at_) {i:Nat} {p:Pe} (hp:(Cu.tickA { w with now:=at_ }).pes[i]?=some p):p.cl.waits=[]:=by
  have ht:0≤at_∧at_≤1152921504606846976:=by
    unfold Cu.tickE at he
    split at he
    ·cases he
    ·split at he
     ·cases he
     ·omega
  have hp:(w.pes.mapIdx fun j p=>if j<w.pes.length then p.atP at_ else p)[i]?=some p:=hp
  rw [List.getElem?_mapIdx] at hp
  cases hq:w.pes[i]? with
  | none=>rw [hq] at hp;cases hp
  | some q =>
    rw [hq] at hp
    simp only [Option.map_some,if_pos (ZaT hq),Option.some.injEq] at hp
    subst hp
    have hP:=h.pes i q hq
    have hT:=hP.cl.nk.tmo
    have hl:=hP.last
    have ht':=hP.tmo
    show (q.cl.atS at_).waits=[]
    have e:q.cl.atE at_=0:=by
      unfold Cl.atE
      rw [if_neg (by omega),if_neg (by omega),if_neg (by omega)]
    unfold Cl.atS
    rw [if_pos e]
    show q.cl.waits.filter (Zbq q.cl.tmo at_)=[]
    rw [List.filter_eq_nil_iff]
    intro x hx
    have:=(hP.cl.w.ats x hx).2
    unfold Zbq
    simp only [decide_eq_true_eq]
    omega
theorem Zk4 {h0 h h':Zb} {T T':TT} (e:Ext h0 h) (low:∀ k,T k≠none→sz h0≤k) (st:Zax T T' h h'):Ext h0 h'∧∀ k,T' k≠none→sz h0≤k:=by
  refine ⟨e.then st.upd fun k hk=>low k hk,fun k hk=>?_⟩
  rcases st.new k hk with q | q
  ·exact low k q
  ·have h9:sz h≤k:=q
   have h8:sz h0≤sz h:=e.size
   omega
structure Go1 (tmo:Int) (h0:Zb) (wb:Nat) (sp:Sl) (hh:Zb) (T:TT) (w:Cu) (n:Nat):Prop where
  wd:Wld hh T wb sp w
  ok:ZbK tmo w n
  ext:Ext h0 hh
  low:∀ k,T k≠none→sz h0≤k
theorem Go1.do {tmo:Int} {h0 hh:Zb} {wb:Nat} {sp:Sl} {T:TT} {w:Cu} {n:Nat} (g:Go1 tmo h0 wb sp hh T w n) (hn:n≤1000) {o:Op} (ho:ZuL o) {K:Int→Bool→Int→Zb→Prop}
    (hk:∀ h' T',Go1 tmo h0 wb sp h' T' (w.doR o).2 (n+1)→K (w.doR o).1.1 (w.doR o).1.2.1 (w.doR o).1.2.2 h'):YE (some ⟨wb,0,none⟩) o K hh :=
  ZrW g.wd g.ok hn ho.kind ho.text fun h' T' hW st=>by
   obtain ⟨e,l⟩:=Zk4 g.ext g.low st
   exact hk h' T' ⟨hW,g.ok.do hn o,e,l⟩
theorem Go1.load {tmo:Int} {h0 hh:Zb} {wb:Nat} {sp:Sl} {T:TT} {w:Cu} {n:Nat} (g:Go1 tmo h0 wb sp hh T w n) {at_:Int} (hw:w.srv=Tk.Zln at_) {s:Sl} {fl:List F4} (hr:Row hh s 4 (fl.flatMap f4L)) (hfl:fl.length≤1099511627776) (hs:fl.flatMap f4L≠[]→∀ k,s.blk=some k→k<sz h0) {K:Int→Zb→Prop}
    (hk:∀ e h' T' w',Go1 tmo h0 wb sp h' T' w' n→(e=0→Ze8 (Tk.Zln at_) nA fl∧w'={ w with srv:=w.srv.loaded nA fl })→K e h'):Yt (some ⟨wb,0,none⟩) s K hh:=by
  refine Zki g.wd hw hr hfl (fun hne k hk=>⟨Classical.byContradiction fun h9=>by have:=g.low k h9;have:=hs hne k hk;omega,Nat.lt_of_lt_of_le (hs hne k hk) g.ext.size⟩) (fun e h' he _ hW st=>?_) (fun hl h' T' hW st=>?_)
  ·obtain ⟨e1,l1⟩:=Zk4 g.ext g.low st
   exact hk e h' T w ⟨hW,g.ok,e1,l1⟩ fun h0=>(he h0).elim
  ·obtain ⟨e1,l1⟩:=Zk4 g.ext g.low st
   rw [hw] at hl
   exact hk 0 h' T' _ ⟨hW,g.ok.srvs (by rw [hw];exact SOK.loaded hl),e1,l1⟩ fun _=>⟨hl,rfl⟩
theorem Go1.ext1 {tmo:Int} {h0 hh h':Zb} {wb:Nat} {sp:Sl} {T:TT} {w:Cu} {n:Nat} (g:Go1 tmo h0 wb sp hh T w n) (e:Ext hh h'):Go1 tmo h0 wb sp h' T w n:=⟨g.wd.ext e,g.ok,g.ext.trans e,g.low⟩
theorem Go1.wait {tmo:Int} {h0 hh:Zb} {wb:Nat} {sp:Sl} {T:TT} {w:Cu} {n:Nat} (g:Go1 tmo h0 wb sp hh T w n) {i:Int} {K:Sl→Zb→Prop} (h1:K ⟨none,0,0⟩ hh)
    (h2:∀ (k:Nat) (p:Pe) (s:Sl) (h':Zb),i=(k:Int)→w.pes[k]?=some p→s.len=p.cl.waits.length→Go1 tmo h0 wb sp h' T w n→K s h'):YD (some ⟨wb,0,none⟩) i K hh :=
  ZqC g.wd (fun i p hp=>(g.ok.pes i p hp).cl.w) (fun _=>h1) fun k p s h' hi hp o e=>h2 k p s h' hi hp (by have:=o.len;rw [List.length_map,List.length_map] at this;omega) (g.ext1 e)
theorem ZvJ {h:Zb} {s:Sl} {fl:List F4} (hr:Row h s 4 (fl.flatMap f4L)) (hne:fl.flatMap f4L≠[]) {k:Nat} (hk:s.blk=some k):k<sz h:=by
  cases fl with
  | nil=>exact (hne rfl).elim
  | cons f l =>
    obtain ⟨b,o,h1,h2,_⟩:=Zbr Y8 hr (i:=0) rfl (by decide)
    rw [hk] at h1
    cases h1
    exact h2
theorem ZhQ {a0 a1 a2 a3 a4:Int} {s:Sl} {fl:List F4} {l:Sl} {ops:List Op} {h:Zb} {K:Bool→Zb→Prop} (h0 : -9223372036854775808≤a1∧a1<9223372036854775808) (hr:Row h s 4 (fl.flatMap f4L)) (hl:Row h l 10 (ops.flatMap opL)) (hok:∀ o,o∈ops→ZuL o) (hfl:fl.length≤1099511627776)
    (hk:∀ h',Ext h h'→K true h'):Xj (a0,a1,a2,a3,a4,s,()) l K h:=by
  unfold Xj Zag
  refine ZaX fun h1 c1 e1 z1=>?_
  have z1:sz h1=sz h+1:=z1
  refine rI (Zu c1 rfl) (rI (Zu c1 rfl) (rI (Zu c1 rfl) (rI (Zu c1 rfl) (rI (Zu c1 rfl) ?_))))
  refine ZmO (fun e h8 e8=>Za (Zaw (fun _=>ZiW fun h10 e10=>ZF ?_) (fun e2=>(e e2).elim))) fun e h8 T wb sp hW e8 low=>Za (Zaw (fun e2=>(e2 rfl).elim) fun _=>?_)
  ·rw [Yz]
   exact hk h10 ((e1.trans e8).trans e10)
  obtain ⟨q1,q2,q3⟩:=Zj2 e
  have q2:1≤a1∧a1≤8:=q2
  have hon:=Zrp q3
  have htm:1≤a2∧a2≤60000000:=hon.nk.tmo
  have g8:Go1 a2 h1 wb sp h8 T (ZiR a0 a2 a3 a4 a1.toNat) 0:=⟨hW,ZbK.new e,e8,low⟩
  refine rL (Zu (Yf c1 e8) rfl) ?_
  have e18:=e1.trans e8
  refine g8.load (at_:=a0) rfl (hr.ext e18) hfl (fun hne k hk=>by have:=ZvJ hr hne hk;omega) fun _ h14 T14 w14 g14 _=>?_
  have hsl:l.len=ops.length:=by
    have:=hl.len
    rw [Yc ZiN] at this
    omega
  have c1':obj h1 (sz h)=_:=c1
  have set:∀ {hh:Zb},Ext h1 hh→obj hh (sz h)=some (.cells [iv a0,iv a1,iv a2,iv a3,iv a4,slV s].toArray _ (0,0)):=fun e=>Yf c1' e
  refine Zor (J:=fun _ hh=>∃ T w n,Go1 a2 h1 wb sp hh T w n∧n≤100) ?_ ?_
  ·rintro _ h37 ⟨T37,w,n,g,hn⟩
   refine rI (Zu (set g.ext) rfl) (Zof g.wd ?_)
   refine ⟨held1 (Zu (set g.ext) rfl),?_⟩
   rw [ZR (n:=1152921504606846976 - a2) (by omega) (by omega)]
   refine Zj (fun c=>ZiW fun h42 e42=>?_) (fun c=>?_)
   ·rw [Yz]
    exact hk h42 ((e1.trans g.ext).trans e42)
   have hnow:=g.ok.now
   refine rI (Zu (set g.ext) rfl) (Zof g.wd ⟨held1 (Zu (set g.ext) rfl),?_⟩)
   rw [ZR (n:=w.now+a2) (by omega) (by omega)]
   have he:w.tickE (w.now+a2)=0:=by
     unfold Cu.tickE
     rw [if_neg (by omega),if_neg (by omega),if_neg (by omega)]
   have hd:w.doR (1,0,w.now+a2,0,0,0,0,0,ByteArray.mk #[],0,())=((0,false,0),Cu.tickA { w with now:=w.now+a2 }):=by
     unfold Cu.doR
     rw [if_neg (show ¬ (1:Int)<1 by decide),if_neg (show ¬ (1:Int)≥9 by decide),if_neg (show ¬ ZgN (1:Int).toNat=false by decide)]
     show res (w.tickR (w.now+a2))=_
     unfold Cu.tickR
     rw [if_pos he]
     rfl
   refine g.do (by omega) (o:=(1,0,w.now+a2,0,0,0,0,0,ByteArray.mk #[],0,())) ⟨(show (0:Int)≤1∧(1:Int)<256 by decide),(show (ByteArray.mk #[]).size<9223372036854775808 by decide)⟩ fun h50 T50 g50=>⟨held1 (Zu (set g50.ext) rfl),?_⟩
   rw [hd] at g50 ⊢
   refine Za ?_
   rw [Yz]
   refine Za (Za ?_)
   refine ZdF (I:=fun s hh=>∃ k:Nat,s=((k:Int),())∧(k:Int)≤a1∧Go1 a2 h1 wb sp hh T50 (Cu.tickA { w with now:=w.now+a2 }) (n+1)) (fun s _=>(a1 - s.1).toNat) ⟨0,rfl,by omega,g50⟩ ?_
   rintro _ h56 ⟨k,rfl,hka,g56⟩ Q hQ
   dsimp only
   refine rI (Zu (set g56.ext) rfl) (Zj (fun c=>?_) (fun c=>?_))
   ·refine g56.wait (Zj (fun c=>by cases c) (fun _=>Za ?_)) fun j p s' h59 hj hp hl59 g59=>Zj (fun c=>?_) (fun _=>Za ?_)
    ·rw [ZR (n:=(k:Int)+1) (by omega) (by omega)]
     exact hQ _ _ ⟨k+1,rfl,by omega,g56⟩ (by dsimp only;omega)
    ·have:=ZoN g.ok he (Int.le_refl _) hp
     rw [this] at hl59
     have:s'.len=0:=hl59
     omega
    ·rw [ZR (n:=(k:Int)+1) (by omega) (by omega)]
     exact hQ _ _ ⟨k+1,rfl,by omega,g59⟩ (by dsimp only;omega)
   ·refine ZiW fun h62 e62=>ZF ?_
    rw [Yz]
    exact hk h62 ((e1.trans g56.ext).trans e62)
  ·intro Q hQ
   refine Za ?_
   refine ZdF (I:=fun st hh=>∃ (k:Nat) (T:TT) (w:Cu),st=((k:Int),())∧k≤100∧Go1 a2 h1 wb sp hh T w k) (fun st _=>100 - st.1.toNat) ⟨0,T14,w14,rfl,by decide,g14⟩ ?_
   rintro _ h19 ⟨k,T19,w,rfl,hk1,g⟩ Q2 hQ2
   dsimp only
   refine Zj (fun c=>?_) (fun c=>hQ _ _ ⟨T19,w,k,g,hk1⟩)
   refine Zj (fun c2=>?_) (fun c2=>hQ _ _ ⟨T19,w,k,g,hk1⟩)
   have hkl:k<ops.length:=by omega
   have ho:ops[k]?=some ops[k]:=List.getElem?_eq_getElem hkl
   have hom:ops[k]∈ops:=List.getElem_mem hkl
   generalize ops[k]=o at ho hom
   obtain ⟨b,i,_,_,hidx,hc⟩:=Zbr ZiN (hl.ext (e1.trans g.ext)) ho (by decide)
   refine hidx rfl ?_
   refine rI (hc 0 _ rfl) (rI (hc 1 _ rfl) (rI (hc 2 _ rfl) (rI (hc 3 _ rfl) (rI (hc 4 _ rfl) (rI (hc 5 _ rfl) (rI (hc 6 _ rfl) (rI (hc 7 _ rfl) (rS (hc 8 _ rfl) (rI (hc 9 _ rfl) ?_)))))))))
   refine g.do (by omega) (o:=o) (hok o hom) fun h34 T34 g34=>Za ?_
   rw [wrS (n:=100) (by omega) (by decide)]
   exact hQ2 _ _ ⟨k+1,T34,_,rfl,by omega,g34⟩ (by dsimp only;omega)
end Go.Proofs.YtbppjmcinoffnaaGreat
namespace Go.Proofs.YtbppjmcinoffnaaGreat
open Go Go.Fw
open Nat (reduceAdd reduceLT reduceLeDiff reduceEqDiff reduceMul)
open Tk (F4 f4L)
theorem Zhm {a0 a1 a2 a3 a4:Int} {s:Sl} {fl:List F4} {l:Sl} {ops:List Op} {h:Zb} {K:Bool→Zb→Prop} (h0:Row h s 4 (fl.flatMap f4L)∧(-9223372036854775808≤a1∧a1<9223372036854775808)) (hl:Row h l 10 (ops.flatMap opL)∧∀ o,o∈ops→ZuL o) (hb0:fl.length≤1048576) (_:ops.length≤1048576)
    (hk:∀ h',Ext h h'→K true h'):Xj (a0,a1,a2,a3,a4,s,()) l K h:=ZhQ h0.2 h0.1 hl.1 hl.2 (by omega) hk
end Go.Proofs.YtbppjmcinoffnaaGreat
namespace Go.Proofs.YtbppjmcinoffnaaGreat.Tk
open Go Go.Fw Go.ChangeShapes Go.WideShapes
theorem Zld {H:Type} {d:DataW H}:∀ {l:List (DataW H)},d∈l→Rows.uptoBulk d≤Rows.uptoBulkAll l
  | e::l,h=>by
    rcases List.mem_cons.1 h with rfl | h
    ·simp only [Rows.uptoBulkAll];omega
    ·have:=Zld h
     simp only [Rows.uptoBulkAll]
     omega
section
variable {H:Type} {enc:TypeId × Value→H} {P:Program} {w:World} {base:Nat} {spare:Nat→Bool} {held:Bool}
theorem ZeB {fs:Array Field} {l:List (TypeId × Nat)} (hf:fs.toList.map (fun f=>(f.type,f.offset))=l) {i:Nat} {p:TypeId × Nat} (hp:l[i]?=some p):∃ f,fs[i]?=some f∧f.type=p.1∧f.offset=p.2:=by
  subst hf
  rw [List.getElem?_map,Option.map_eq_some_iff] at hp
  obtain ⟨f,h1,rfl⟩:=hp
  exact ⟨f,by simpa using h1,rfl,rfl⟩
theorem ZuJ {t:TypeId} {fs:Array Field} {cs:List Value} {fuel:Nat} {x:DataW H × List MemPlace} (ht:P.underlying t=some (.struct fs)) (hc:P.cellsOf t=6) {ti tw ts:TypeId} (hti:P.underlying ti=some (.int .i64)) (htw:P.underlying tw=some (.int .u8)) (hts:P.underlying ts=some .string)
    (ci:P.cellsOf ti=1) (cw:P.cellsOf tw=1) (csz:P.cellsOf ts=1) (hf:fs.toList.map (fun f=>(f.type,f.offset))=[(ti,0),(tw,1),(ti,2),(ti,3),(ts,4),(ti,5)])
    (h:DataW.trod enc P w base spare held fuel t cs=some x):∃ r:Rq,cs=rqC r∧r.2.2.2.2.1.size<9223372036854775808∧r.2.2.2.2.1.size+1≤Rows.uptoBulk x.1:=by
  obtain ⟨xs,n,rfl,rfl,hl,hlen,hall⟩:=DataW.trod_struct ht h
  rw [hc] at hl
  have hfl:fs.size=6:=by
    have:=congrArg List.length hf
    simpa using this
  match cs,hl with
  | [c0,c1,c2,c3,c4,c5],_ =>
    have int:∀ (i o:Nat) (c:Value),([(ti,0),(tw,1),(ti,2),(ti,3),(ts,4),(ti,5)]:List (TypeId × Nat))[i]?=some (ti,o)→(([c0,c1,c2,c3,c4,c5]:List Value).drop o).take 1=[c]→∃ m,c = .int .i64 m:=fun i o c h1 h2=>by
      obtain ⟨f,g1,g2,g3⟩:=ZeB hf h1
      have:=hall i f g1
      simp only at g2 g3
      rw [g2,g3,ci,h2] at this
      have hi:i<xs.length:=by
        rw [hlen,hfl]
        rcases Nat.lt_or_ge i 6 with h9 | h9
        ·exact h9
        ·rw [List.getElem?_eq_none (by simpa using h9)] at h1;cases h1
      rw [List.getElem?_eq_getElem hi] at this
      obtain ⟨m,hm,_⟩:=DataW.trod_int hti this
      exact ⟨m,by simpa using hm⟩
    obtain ⟨m0,rfl⟩:=int 0 0 c0 rfl rfl
    obtain ⟨m2,rfl⟩:=int 2 2 c2 rfl rfl
    obtain ⟨m3,rfl⟩:=int 3 3 c3 rfl rfl
    obtain ⟨m5,rfl⟩:=int 5 5 c5 rfl rfl
    have w1:∃ m,c1 = .int .u8 m:=by
      obtain ⟨f,g1,g2,g3⟩:=ZeB hf (i:=1) rfl
      have:=hall 1 f g1
      simp only at g2 g3
      rw [g2,g3,cw] at this
      rw [List.getElem?_eq_getElem (by omega:1<xs.length)] at this
      obtain ⟨m,hm,_⟩:=DataW.trod_int htw this
      exact ⟨m,by simpa using hm⟩
    obtain ⟨m1,rfl⟩:=w1
    have s4:∃ s:ByteArray,c4 = .string s∧s.size≤maxLen∧s.size+1≤Rows.uptoBulkAll (xs.map (·.1)):=by
      obtain ⟨f,g1,g2,g3⟩:=ZeB hf (i:=4) rfl
      have:=hall 4 f g1
      simp only at g2 g3
      rw [g2,g3,csz] at this
      rw [List.getElem?_eq_getElem (by omega:4<xs.length)] at this
      obtain ⟨s,hs,hx,hsz⟩:=DataW.trod_string hts this
      refine ⟨s,by simpa using hs,hsz,?_⟩
      have hm:(DataW.lit (.string s.data.toList):DataW H)∈xs.map (·.1):=List.mem_map.2 ⟨xs[4],List.getElem_mem _,by rw [hx]⟩
      have:=Zld hm
      simp only [Rows.uptoBulk] at this
      have e:s.data.toList.length=s.size:=by simp
      omega
    obtain ⟨s,rfl,hsz,hbulk⟩:=s4
    refine ⟨(m0,m1,m2,m3,s,m5,()),rfl,Zl6 hsz,?_⟩
    simp only [Rows.uptoBulk]
    omega
end
section
variable {H:Type} {enc:TypeId × Value→H} {P:Program} {w:World} {base:Nat} {spare:Nat→Bool} {held:Bool}
theorem ZgM {α:Type} [Inhabited α] {g:α→List Value} {n:Nat} (hg:∀ a,(g a).length=n) (hn:0<n) {Pa:α→Prop} {μ:α→Nat} {u t:TypeId} {fuel:Nat} {a:Option Addr} {len cap:Nat} {x:DataW H × List MemPlace} (hu:P.underlying u=some (.slice t)) (hc:P.cellsOf t=n)
    (elem:∀ {fuel:Nat} {cs:List Value} {x:DataW H × List MemPlace},DataW.trod enc P w base spare held fuel t cs=some x→∃ a:α,cs=g a∧Pa a∧μ a≤Rows.uptoBulk x.1)
    (h:DataW.trod enc P w base spare held fuel u [.slice a len cap]=some x):∃ l:List α,(Row w.heap ⟨a,len,cap⟩ n (l.flatMap g)∧∀ a,a∈l→Pa a)∧(l.map μ).sum+1≤Rows.uptoBulk x.1:=by
  rcases Deep.open_slice hu h with ⟨hcs,rfl⟩ | ⟨a',len',cap',m,n',D,Pl,hcs,_,hl,hm,hmm,rfl,hx⟩
  ·simp at hcs
   obtain ⟨rfl,rfl,rfl⟩:=hcs
   exact ⟨[],⟨Row.nil _ n,by simp⟩,by simp [Rows.uptoBulk]⟩
  ·simp at hcs
   obtain ⟨rfl,rfl,rfl⟩:=hcs
   have hlen:len≤m:=by rw [hmm];split<;>omega
   have hbig:cap<9223372036854775808:=Zl6 hm
   have each:∀ i,i<len→∃ a:α,w.cells? base (a'.add (i*n)) n=some (g a)∧Pa a∧μ a≤Rows.uptoBulk (D i):=by
     intro i hi
     obtain ⟨cs',h1,h2⟩:=hx i (by omega)
     rw [hc] at h1
     obtain ⟨r,rfl,hp,hb⟩:=elem h2
     exact ⟨r,h1,hp,hb⟩
   obtain ⟨f,hf⟩:=Deep.choose_lt each
   have cell:∀ i,i<len→∀ k,k<n→w.cell? ((a'.add (i*n)).add k)=(g (f i))[k]?:=fun i hi k hk=>(World.cells?_some (hf i hi).1).2.2 k hk
   refine ⟨(List.range len).map f,⟨⟨by rw [Yc hg];simp,hl,hbig,?_⟩,fun a ha=>?_⟩,?_⟩
   ·rcases Nat.eq_zero_or_pos len with h0 | h0
    ·exact .inl h0
    ·right
     have hsp:a'=⟨a'.block,a'.off,none⟩:=by
       have h0:=cell 0 (by omega) 0 hn
       have e0:(a'.add (0*n)).add 0=a':=by rw [Nat.zero_mul];rfl
       rw [e0,List.getElem?_eq_getElem (by rw [hg];exact hn)] at h0
       exact ZqZ h0
     refine ⟨a'.block,a'.off,by rw [← hsp],Zoi fun k v hv=>?_⟩
     have hk:k<len*n:=by
       have:=ZaT hv
       rw [Yc hg] at this
       simpa using this
     have hdm:=Nat.div_add_mod k n
     have hi:k / n<len:=(Nat.div_lt_iff_lt_mul hn).2 hk
     have hj:k % n<n:=Nat.mod_lt _ hn
     have e1:=Zgc hg ((List.range len).map f) (k / n) (k % n) (f (k / n)) (by rw [List.getElem?_map,List.getElem?_range hi];rfl) hj
     have ek:k / n*n+k % n=k:=by rw [Nat.mul_comm];exact hdm
     rw [ek,hv] at e1
     have:=cell (k / n) hi (k % n) hj
     rw [hsp,ZoA,ZoA,Zlb,← e1] at this
     rw [← ek,← Nat.add_assoc]
     exact this
   ·obtain ⟨i,hi,rfl⟩:=List.mem_map.1 ha
    exact (hf i (by simpa using hi)).2.1
   ·have h1:=Zjj D (fun i=>μ (f i)) (List.range len) fun i hi=>(hf i (by simpa using hi)).2.2
    simp only [Rows.uptoBulk,List.map_map]
    have:((List.range len).map (μ ∘ f)).sum≤Rows.uptoBulkAll ((List.range len).map D):=h1
    omega
theorem ZxU {n:Int} (h:(Lit.int .u8 n).wf=true):0≤n∧n<256:=by
  simp only [Lit.wf,Bool.and_eq_true,decide_eq_true_eq] at h
  have h1:IntKind.u8.min=0:=by decide
  have h2:IntKind.u8.max=255:=by decide
  omega
end
end Go.Proofs.YtbppjmcinoffnaaGreat.Tk
namespace Go.Proofs.YtbppjmcinoffnaaGreat
open Go Go.Fw Go.ChangeShapes Go.WideShapes
open Tk (F4 f4L Y8 ZgM ZuJ ZeB ZxU)
theorem ZxV {n:Int} (h:(Lit.int .i64 n).wf=true) : -9223372036854775808≤n∧n<9223372036854775808:=by
  simp only [Lit.wf,Bool.and_eq_true,decide_eq_true_eq] at h
  have h1:IntKind.i64.min = -9223372036854775808:=by decide
  have h2:IntKind.i64.max=9223372036854775807:=by decide
  omega
theorem ZkC {α:Type}:∀ l:List α,(l.map fun _=>(1:Nat)).sum=l.length
  | []=>rfl
  | _::l=>by rw [List.map_cons,List.sum_cons,ZkC l,List.length_cons];omega
section
variable {H:Type} {enc:TypeId × Value→H} {P:Program} {w:World} {base:Nat} {spare:Nat→Bool} {held:Bool}
theorem ZyP {t:TypeId} {fs:Array Field} {cs:List Value} {fuel:Nat} {x:DataW H × List MemPlace} (ht:P.underlying t=some (.struct fs)) (hc:P.cellsOf t=4) {ti tk:TypeId} (hti:P.underlying ti=some (.int .i64)) (htk:P.underlying tk=some (.int .i64)) (ci:P.cellsOf ti=1) (ck:P.cellsOf tk=1)
    (hf:fs.toList.map (fun f=>(f.type,f.offset))=[(ti,0),(ti,1),(tk,2),(ti,3)]) (h:DataW.trod enc P w base spare held fuel t cs=some x):∃ f:F4,cs=f4L f∧True∧1≤Rows.uptoBulk x.1:=by
  obtain ⟨xs,n,rfl,rfl,hl,hlen,hall⟩:=DataW.trod_struct ht h
  rw [hc] at hl
  have hfl:fs.size=4:=by
    have:=congrArg List.length hf
    simpa using this
  match cs,hl with
  | [c0,c1,c2,c3],_ =>
    have fld:∀ {i:Nat} {p:TypeId × Nat} (hi:i<xs.length),([(ti,0),(ti,1),(tk,2),(ti,3)]:List (TypeId × Nat))[i]?=some p→DataW.trod enc P w base spare held n p.1 (([c0,c1,c2,c3].drop p.2).take (P.cellsOf p.1))=some xs[i]:=fun {i p} hi hp=>by
      obtain ⟨f,g1,g2,g3⟩:=ZeB hf hp
      have:=hall i f g1
      rw [g2,g3,List.getElem?_eq_getElem hi] at this
      exact this
    have f0:=fld (i:=0) (by omega) rfl
    have f1:=fld (i:=1) (by omega) rfl
    have f2:=fld (i:=2) (by omega) rfl
    have f3:=fld (i:=3) (by omega) rfl
    dsimp only at f0 f1 f2 f3
    rw [ci] at f0 f1 f3
    rw [ck] at f2
    obtain ⟨m0,h0,_⟩:=DataW.trod_int hti f0
    obtain ⟨m1,h1,_⟩:=DataW.trod_int hti f1
    obtain ⟨m2,h2,_⟩:=DataW.trod_int htk f2
    obtain ⟨m3,h3,_⟩:=DataW.trod_int hti f3
    simp at h0 h1 h2 h3
    subst h0 h1 h2 h3
    refine ⟨(m0,m1,m2,m3,()),rfl,trivial,?_⟩
    simp only [Rows.uptoBulk]
    omega
theorem Zwp {u t:TypeId} {fs:Array Field} {fuel:Nat} {a:Option Addr} {len cap:Nat} {x:DataW H × List MemPlace} (hu:P.underlying u=some (.slice t)) (ht:P.underlying t=some (.struct fs)) (hc:P.cellsOf t=4) {ti tk:TypeId} (hti:P.underlying ti=some (.int .i64)) (htk:P.underlying tk=some (.int .i64)) (ci:P.cellsOf ti=1) (ck:P.cellsOf tk=1)
    (hf:fs.toList.map (fun f=>(f.type,f.offset))=[(ti,0),(ti,1),(tk,2),(ti,3)]) (h:DataW.trod enc P w base spare held fuel u [.slice a len cap]=some x):∃ l:List F4,Row w.heap ⟨a,len,cap⟩ 4 (l.flatMap f4L)∧l.length+1≤Rows.uptoBulk x.1:=by
  haveI:Inhabited F4:=⟨(0,0,0,0,())⟩
  obtain ⟨l,⟨h1,_⟩,h2⟩:=ZgM (Pa:=fun _:F4=>True) (μ:=fun _=>1) Y8 (by decide) hu hc (ZyP ht hc hti htk ci ck hf) h
  refine ⟨l,h1,?_⟩
  have:=ZkC l
  omega
theorem ZyO {t:TypeId} {fs rs:Array Field} {cs:List Value} {fuel:Nat} {x:DataW H × List MemPlace} (ht:P.underlying t=some (.struct fs)) (hc:P.cellsOf t=10) {ti tr tw ts tk:TypeId} (hti:P.underlying ti=some (.int .i64)) (htr:P.underlying tr=some (.struct rs))
    (htw:P.underlying tw=some (.int .u8)) (hts:P.underlying ts=some .string) (htk:P.underlying tk=some (.int .u8)) (ci:P.cellsOf ti=1) (cr:P.cellsOf tr=6) (cw:P.cellsOf tw=1) (csz:P.cellsOf ts=1) (ck:P.cellsOf tk=1)
    (hf:fs.toList.map (fun f=>(f.type,f.offset))=[(tk,0),(ti,1),(ti,2),(ti,3),(tr,4)]) (hr:rs.toList.map (fun f=>(f.type,f.offset))=[(ti,0),(tw,1),(ti,2),(ti,3),(ts,4),(ti,5)])
    (h:DataW.trod enc P w base spare held fuel t cs=some x):∃ o:Op,cs=opL o∧ZuL o∧1≤Rows.uptoBulk x.1:=by
  obtain ⟨xs,n,rfl,rfl,hl,hlen,hall⟩:=DataW.trod_struct ht h
  rw [hc] at hl
  have hfl:fs.size=5:=by
    have:=congrArg List.length hf
    simpa using this
  match cs,hl with
  | [c0,c1,c2,c3,c4,c5,c6,c7,c8,c9],_ =>
    have fld:∀ {i:Nat} {p:TypeId × Nat} (hi:i<xs.length),([(tk,0),(ti,1),(ti,2),(ti,3),(tr,4)]:List (TypeId × Nat))[i]?=some p→DataW.trod enc P w base spare held n p.1 (([c0,c1,c2,c3,c4,c5,c6,c7,c8,c9].drop p.2).take (P.cellsOf p.1))=some xs[i]:=fun {i p} hi hp=>by
      obtain ⟨f,g1,g2,g3⟩:=ZeB hf hp
      have:=hall i f g1
      rw [g2,g3,List.getElem?_eq_getElem hi] at this
      exact this
    have f0:=fld (i:=0) (by omega) rfl
    have f1:=fld (i:=1) (by omega) rfl
    have f2:=fld (i:=2) (by omega) rfl
    have f3:=fld (i:=3) (by omega) rfl
    have f4:=fld (i:=4) (by omega) rfl
    dsimp only at f0 f1 f2 f3 f4
    rw [ck] at f0
    rw [ci] at f1 f2 f3
    rw [cr] at f4
    obtain ⟨m0,h0,_,w0⟩:=DataW.trod_int htk f0
    obtain ⟨m1,h1,_⟩:=DataW.trod_int hti f1
    obtain ⟨m2,h2,_⟩:=DataW.trod_int hti f2
    obtain ⟨m3,h3,_⟩:=DataW.trod_int hti f3
    obtain ⟨r,h4,hrs,hrb⟩:=ZuJ htr cr hti htw hts ci cw csz hr f4
    simp at h0 h1 h2 h3 h4
    obtain ⟨rfl,rfl,rfl,rfl,rfl,rfl⟩:=h4
    subst h0 h1 h2 h3
    refine ⟨(m0,m1,m2,m3,r),rfl,⟨ZxU w0,hrs⟩,?_⟩
    simp only [Rows.uptoBulk]
    omega
theorem Zwo {u t:TypeId} {fs rs:Array Field} {fuel:Nat} {a:Option Addr} {len cap:Nat} {x:DataW H × List MemPlace} (hu:P.underlying u=some (.slice t)) (ht:P.underlying t=some (.struct fs)) (hc:P.cellsOf t=10) {ti tr tw ts tk:TypeId} (hti:P.underlying ti=some (.int .i64)) (htr:P.underlying tr=some (.struct rs))
    (htw:P.underlying tw=some (.int .u8)) (hts:P.underlying ts=some .string) (htk:P.underlying tk=some (.int .u8)) (ci:P.cellsOf ti=1) (cr:P.cellsOf tr=6) (cw:P.cellsOf tw=1) (csz:P.cellsOf ts=1) (ck:P.cellsOf tk=1)
    (hf:fs.toList.map (fun f=>(f.type,f.offset))=[(tk,0),(ti,1),(ti,2),(ti,3),(tr,4)]) (hr:rs.toList.map (fun f=>(f.type,f.offset))=[(ti,0),(tw,1),(ti,2),(ti,3),(ts,4),(ti,5)])
    (h:DataW.trod enc P w base spare held fuel u [.slice a len cap]=some x):∃ l:List Op,(Row w.heap ⟨a,len,cap⟩ 10 (l.flatMap opL)∧∀ o,o∈l→ZuL o)∧l.length+1≤Rows.uptoBulk x.1:=by
  haveI:Inhabited Op:=⟨(0,0,0,0,0,0,0,0,ByteArray.empty,0,())⟩
  obtain ⟨l,h1,h2⟩:=ZgM (Pa:=ZuL) (μ:=fun _=>1) ZiN (by decide) hu hc (ZyO ht hc hti htr htw hts htk ci cr cw csz ck hf hr) h
  refine ⟨l,h1,?_⟩
  have:=ZkC l
  omega
theorem Zsf {t:TypeId} {fs gs cf:Array Field} {cs:List Value} {fuel:Nat} {x:DataW H × List MemPlace} (ht:P.underlying t=some (.struct fs)) (hc:P.cellsOf t=6) {ti tc tf tg tk:TypeId} (hti:P.underlying ti=some (.int .i64)) (htc:P.underlying tc=some (.struct cf)) (htf:P.underlying tf=some (.slice tg)) (htg:P.underlying tg=some (.struct gs)) (htk:P.underlying tk=some (.int .i64))
    (ci:P.cellsOf ti=1) (cc:P.cellsOf tc=3) (csl:P.cellsOf tf=1) (cg:P.cellsOf tg=4) (ck:P.cellsOf tk=1) (hf:fs.toList.map (fun f=>(f.type,f.offset))=[(ti,0),(ti,1),(tc,2),(tf,5)]) (hcf:cf.toList.map (fun f=>(f.type,f.offset))=[(ti,0),(ti,1),(ti,2)])
    (hg:gs.toList.map (fun f=>(f.type,f.offset))=[(ti,0),(ti,1),(tk,2),(ti,3)]) (h:DataW.trod enc P w base spare held fuel t cs=some x):∃ (a0 a1 a2 a3 a4:Int) (s:Sl) (fl:List F4),cs=[iv a0,iv a1,iv a2,iv a3,iv a4,slV s]∧(Row w.heap s 4 (fl.flatMap f4L)∧(-9223372036854775808≤a1∧a1<9223372036854775808))∧fl.length+1≤Rows.uptoBulk x.1:=by
  obtain ⟨xs,n,rfl,rfl,hl,hlen,hall⟩:=DataW.trod_struct ht h
  rw [hc] at hl
  have hfl:fs.size=4:=by
    have:=congrArg List.length hf
    simpa using this
  match cs,hl with
  | [c0,c1,c2,c3,c4,c5],_ =>
    have fld:∀ {i:Nat} {p:TypeId × Nat} (hi:i<xs.length),([(ti,0),(ti,1),(tc,2),(tf,5)]:List (TypeId × Nat))[i]?=some p→DataW.trod enc P w base spare held n p.1 (([c0,c1,c2,c3,c4,c5].drop p.2).take (P.cellsOf p.1))=some xs[i]:=fun {i p} hi hp=>by
      obtain ⟨f,g1,g2,g3⟩:=ZeB hf hp
      have:=hall i f g1
      rw [g2,g3,List.getElem?_eq_getElem hi] at this
      exact this
    have f0:=fld (i:=0) (by omega) rfl
    have f1:=fld (i:=1) (by omega) rfl
    have f2:=fld (i:=2) (by omega) rfl
    have f3:=fld (i:=3) (by omega) rfl
    dsimp only at f0 f1 f2 f3
    rw [ci] at f0 f1
    rw [cc] at f2
    rw [csl] at f3
    obtain ⟨m0,h0,_⟩:=DataW.trod_int hti f0
    obtain ⟨m1,h1,_,w1⟩:=DataW.trod_int hti f1
    simp at h0 h1
    subst h0 h1
    have hcl:∃ m2 m3 m4:Int,[c2,c3,c4]=[iv m2,iv m3,iv m4]:=by
      obtain ⟨ys,k,_,_,hl2,hlen2,hall2⟩:=DataW.trod_struct htc f2
      have hfl2:cf.size=3:=by
        have:=congrArg List.length hcf
        simpa using this
      have fld2:∀ {i:Nat} {p:TypeId × Nat} (hi:i<ys.length),([(ti,0),(ti,1),(ti,2)]:List (TypeId × Nat))[i]?=some p→DataW.trod enc P w base spare held k p.1 (([c2,c3,c4].drop p.2).take (P.cellsOf p.1))=some ys[i]:=fun {i p} hi hp=>by
        obtain ⟨f,g1,g2,g3⟩:=ZeB hcf hp
        have:=hall2 i f g1
        rw [g2,g3,List.getElem?_eq_getElem hi] at this
        exact this
      have g0:=fld2 (i:=0) (by omega) rfl
      have g1:=fld2 (i:=1) (by omega) rfl
      have g2:=fld2 (i:=2) (by omega) rfl
      dsimp only at g0 g1 g2
      rw [ci] at g0 g1 g2
      obtain ⟨m2,h2,_⟩:=DataW.trod_int hti g0
      obtain ⟨m3,h3,_⟩:=DataW.trod_int hti g1
      obtain ⟨m4,h4,_⟩:=DataW.trod_int hti g2
      simp at h2 h3 h4
      exact ⟨m2,m3,m4,by rw [h2,h3,h4]⟩
    obtain ⟨m2,m3,m4,hcl⟩:=hcl
    simp only [List.cons.injEq,and_true] at hcl
    obtain ⟨rfl,rfl,rfl⟩:=hcl
    have h5:∃ sl:Sl,c5=slV sl:=by
      rcases Deep.open_slice htf f3 with ⟨hcs,_⟩ | ⟨a',len',cap',m,n',D,Pl,hcs,_⟩
      ·simp at hcs
       exact ⟨⟨none,0,0⟩,hcs⟩
      ·simp at hcs
       exact ⟨⟨some a',len',cap'⟩,hcs⟩
    obtain ⟨sl,rfl⟩:=h5
    obtain ⟨fl,q1,q2⟩:=Zwp htf htg cg hti htk ci ck hg f3
    refine ⟨m0,m1,m2,m3,m4,sl,fl,rfl,⟨q1,ZxV w1⟩,?_⟩
    simp only [Rows.uptoBulk]
    have hx3:xs[3]∈xs:=List.getElem_mem (by omega)
    have hb:=Tk.Zld (List.mem_map_of_mem (f:=fun y:DataW H × List MemPlace=>y.1) hx3)
    omega
end
end Go.Proofs.YtbppjmcinoffnaaGreat
