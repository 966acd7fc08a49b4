/- The token server: Restart. -/
import Derived.Test.YtbppjmcinoffnaaGreatPa14
set_option linter.unusedVariables false
set_option linter.unusedSimpArgs false
namespace Go.Proofs.YtbppjmcinoffnaaGreat.Tk
open Go Go.Fw
open Nat renaming reduceAdd→Nqa,reduceLT→Nqb,reduceLeDiff→Nqc,reduceEqDiff→Nqd,reduceMul→Nqe
theorem ZlP.uniq {es:Array MapEntry} {f g:Int→Option Value} (hf:ZlP es f) (hg:ZlP es g):f=g:=by
  funext k
  cases h:f k with
  | none =>
    cases h':g k with
    | none=>rfl
    | some v =>
      obtain ⟨e,hm,hk⟩:=hg.of k v h'
      have:=hf.val hm hk
      rw [h] at this
      cases this
  | some v =>
    obtain ⟨e,hm,hk⟩:=hf.of k v h
    have h1:=hf.val hm hk
    have h2:=hg.val hm hk
    rw [h2,← h1,h]
theorem Ze4.uniq {h:Zb} {mb:Nat} {f g:Int→Option Value} {n m:Nat} (hf:Ze4 h mb f n) (hg:Ze4 h mb g m):f=g∧n=m:=by
  obtain ⟨es,c,hb,hs,hn,he⟩:=hf
  obtain ⟨es',c',hb',hs',hn',he'⟩:=hg
  rw [hb] at hb'
  cases hb'
  exact ⟨he.uniq he',by omega⟩
def Zj7 (cs cs':Int→Option Cnt):Prop:=∀ id,(cs id).map Cnt.kind=(cs' id).map Cnt.kind
theorem Zj7.ksome {cs cs':Int→Option Cnt} (h:Zj7 cs cs') {id:Int} {c:Cnt} (hc:cs id=some c):∃ c',cs' id=some c'∧c'.kind=c.kind:=by
  have:=h id
  rw [hc] at this
  cases hx:cs' id with
  | none=>rw [hx] at this;cases this
  | some c'=>rw [hx] at this;exact ⟨c',rfl,(Option.some.inj this).symm⟩
theorem Zj7.knone {cs cs':Int→Option Cnt} (h:Zj7 cs cs') {id:Int} (hc:cs id=none):cs' id=none:=by
  have:=h id
  rw [hc] at this
  cases hx:cs' id with
  | none=>rfl
  | some c'=>rw [hx] at this;cases this
theorem Zj7.put {cs cs':Int→Option Cnt} (h:Zj7 cs cs') {id:Int} {c d:Cnt} (hc:cs id=some c) (hd:d.kind=c.kind):Zj7 cs (fun i=>if i=id then some d else cs' i):=fun i=>by
  dsimp only
  split
  ·rename_i e
   subst e
   rw [hc]
   show some c.kind=some d.kind
   rw [hd]
  ·exact h i
def Zhq (id k:Int):Cnt:=Zdh (id,0,k,0,())
def Srv.restarted (S:Srv) (at_:Int):Srv:={ S with begun:=at_,last:=at_,conns:=fun _=>none,nn:=0,out:=[],counts:=fun id=>(S.counts id).map fun c=>Zhq id c.kind }
theorem Zjr {k:Int} (id:Int) (h:k=1∨k=2∨k=3):(Zhq id k).kind=k:=by
  rcases h with rfl | rfl | rfl<;>rfl
theorem ZnP (c:Cnt):c.kind=1∨c.kind=2∨c.kind=3:=by cases c<;>simp [Cnt.kind]
theorem ZmG (f:F4) {k:Int} (h:k=1∨k=2∨k=3) (hf:f.2.2.1=k):(Zdh f).kind=k:=by
  obtain ⟨f1,f2,f3,f4,_⟩:=f
  dsimp only at hf
  subst hf
  rcases h with rfl | rfl | rfl<;>rfl
theorem Zsb {h:Zb} {b o:Nat} {s:Sl} {K:Sl→Prop} (hc:ZL o (obj h b)=some (slV s)):ldL h b o K=K s:=by
  cases s
  exact Zvr hc
theorem Zna {h:Zb} {T:Nat→Option Nat} {sb:Nat} {S:Srv} (hS:Server h T sb S) (hok:S.OK) {at_:Int} {K:Int→Zb→Prop}
    (hk1:Zbm S.last at_≠0→K (Zbm S.last at_) h) (hk2:Zbm S.last at_=0→∀ h' T',Server h' T' sb (S.restarted at_)→Stp T T' h h'→K 0 h'):XI (some ⟨sb,0,none⟩) at_ K h:=by
  obtain ⟨cb,nb,sp,so,ls,hR⟩:=hS
  unfold XI ZbG
  rw [Y9,Zr4 hR.cells,Y9]
  rcases Decidable.em (Zbm S.last at_=0) with q | q
  case inr =>
    refine ZaS (by simpa using q) ?_
    exact hk1 q
  refine XE (by simpa using q) ?_
  have hk:=hk2 q
  clear hk1 hk2
  refine Zh (Zig hR.cells (by simp) YW fun h1 c1 u1 z1=>?_)
  refine Zh (Zig c1 (by simp) YW fun h2' c2 u2 z2=>?_)
  have c2':obj h2' sb=some (.cells [iv at_,iv at_,slV sp,.map (some cb),.map (some nb),slV so,iv S.next].toArray 118 (0,0)):=c2
  have hR2:=hR.setB (b:=at_) (l:=at_) (n:=S.next) (u1.trans u2) c2'
  refine Zh ?_
  rw [Zsa (n:=some nb) (by rw [c2'];rfl)]
  refine hR2.conns.clear fun h3 m3 u3 z3=>?_
  have hR3:=hR2.setN (cs:=fun _=>none) (n:=0) u3 m3
  refine Zh (Zig hR3.cells (by simp) (by rfl) fun h4 c4 u4 z4=>?_)
  have c4':obj h4 sb=some (.cells [iv at_,iv at_,slV sp,.map (some cb),.map (some nb),slV ⟨none,0,0⟩,iv S.next].toArray 118 (0,0)):=c4
  have hR4':=hR3.setO (so':=⟨none,0,0⟩) (o:=[]) (n:=S.next) (u4.mono fun k _ hk=> .inl hk) c4' (Own.nil _ _ _) (fun k hk=>by cases hk)
  have hTT:(fun k=>if (⟨none,0,0⟩:Sl).blk=some k then some 4 else T k)=T:=by
    funext k
    exact if_neg (fun e=>by cases e)
  rw [hTT] at hR4'
  have u14:Upd (fun k=>T k≠none) h h4:=by
    have a1:∀ k,k=sb→T k≠none:=fun k hk=>by subst hk;rw [hR.tsb];exact fun e=>by cases e
    have a2:∀ k,k=nb→T k≠none:=fun k hk=>by subst hk;rw [hR.tnb];exact fun e=>by cases e
    exact (((u1.mono fun k _ hk=>a1 k hk).trans (u2.mono fun k _ hk=>a1 k hk)).trans (u3.mono fun k _ hk=>a2 k hk)).trans (u4.mono fun k _ hk=>a1 k hk)
  generalize hS4:({ ({ ({ S with begun:=at_,last:=at_,next:=S.next }:Srv) with conns:=fun _=>none,nn:=0 }:Srv) with out:=[],next:=S.next }:Srv)=S4 at hR4'
  have hR4:ZdE h4 T sb cb nb sp ⟨none,0,0⟩ ls S4:=hR4'
  have s4c:S4.counts=S.counts:=by rw [← hS4]
  have s4n:S4.nc=S.nc:=by rw [← hS4]
  have fin4:S.restarted at_={ S4 with counts:=fun id=>(S.counts id).map fun c=>Zhq id c.kind }:=by rw [← hS4];rfl
  refine Zh (Zjk hR4.cells rfl ?_)
  have hnm:ls.map (fun x=>(x.1,x.2.2))=S.spaces:=hR.names
  have memF:∀ x,x∈ls→∀ f,f∈x.2.2→∃ c,S.counts f.1=some c∧c.kind=f.2.2.1:=fun x hx f hf=>hok.cnt (x.1,x.2.2) (by rw [← hnm];exact List.mem_map_of_mem hx) f hf
  have hrow0:=hR4.spaces.own.row
  have splen:=Zas Zdj hrow0 (by decide)
  have hb1:=hrow0.big
  have hb2:=hrow0.cap
  refine Zds (fun st hh=>∃ (i:Nat) (T1:Nat→Option Nat) (cs:Int→Option Cnt),st=((i:Int),())∧i≤ls.length∧ZdE hh T1 sb cb nb sp ⟨none,0,0⟩ ls { S4 with counts:=cs }∧Stp T T1 h hh∧Zj7 S.counts cs)
    (fun st _=>(sp.len - st.1).toNat) ⟨0,T,S.counts,rfl,by omega,by rw [← s4c];exact hR4,⟨u14,fun _ h=> .inl h⟩,fun _=>rfl⟩ ?_
  rintro _ hh ⟨i,T1,cs,rfl,hi,hRh,sth,hkd⟩ Q hQ
  dsimp only
  refine Zj (fun q1=>?_) fun q1=>?_
  ·obtain ⟨x,hx⟩:∃ x,ls[i]?=some x:=⟨_,List.getElem?_eq_getElem (by omega)⟩
   have hxm:=List.mem_of_getElem? hx
   obtain ⟨b,o,hb,_,hidx,hcell⟩:=ZaI Zdj hRh.spaces.own.row hx (by decide)
   have hrf:=(hRh.spaces.rows x hxm).1
   have v0:=hcell 0 _ rfl
   have v1:=hcell 1 _ rfl
   simp only [Nat.add_zero] at v0
   refine hidx rfl ?_
   rw [Zvq v0,Zsb v1,ZdM]
   rw [ZiV (by simp (maxDischargeDepth:=60) only [Zs,Zr,evC,Nqa,Nqb,Nqc,Nqd,Nqe,reduceCtorEq]) (by simp (maxDischargeDepth:=60) only [Zs,Zr,evC,Nqa,Nqb,Nqc,Nqd,Nqe,reduceCtorEq])]
   have hlf:=Zas YU hrf (by decide)
   have hb3:=hrf.big
   have hb4:=hrf.cap
   have e2:Ext hh (Zb.puts (hh.push (.cells [.string (ByteArray.mk #[]),slV ⟨none,0,0⟩].toArray 137 (0,0))) (sz hh) 0 [.string x.1,slV x.2.1]):=Z3 (ZO (Ext.refl _)) (Nat.le_refl _)
   have a2:obj (Zb.puts (hh.push (.cells [.string (ByteArray.mk #[]),slV ⟨none,0,0⟩].toArray 137 (0,0))) (sz hh) 0 [.string x.1,slV x.2.1]) (sz hh)=some (.cells [.string x.1,slV x.2.1].toArray 137 (0,0)):=by simp (maxDischargeDepth:=60) only [Zs,Zr,evC,Nqa,Nqb,Nqc,Nqd,Nqe,reduceCtorEq]
   have a2':ZL (0+1) (obj (Zb.puts (hh.push (.cells [.string (ByteArray.mk #[]),.slice none 0 0].toArray 137)) (sz hh) 0 [.string x.1,.slice x.2.1.ptr x.2.1.len x.2.1.cap]) (sz hh))=some (slV x.2.1):=(congrArg (ZL (0+1)) a2).trans rfl
   rw [Zsb a2']
   change YI _ _ (Zb.puts (hh.push (.cells [.string (ByteArray.mk #[]),slV ⟨none,0,0⟩].toArray 137 (0,0))) (sz hh) 0 [.string x.1,slV x.2.1])
   generalize Zb.puts (hh.push (.cells [.string (ByteArray.mk #[]),slV ⟨none,0,0⟩].toArray 137 (0,0))) (sz hh) 0 [.string x.1,slV x.2.1]=h5 at e2 a2 ⊢
   refine Zds (fun st h6=>∃ (k:Nat) (T2:Nat→Option Nat) (cs2:Int→Option Cnt),st=((k:Int),())∧k≤x.2.2.length∧ZdE h6 T2 sb cb nb sp ⟨none,0,0⟩ ls { S4 with counts:=cs2 }∧Stp T T2 h h6∧Zj7 S.counts cs2)
     (fun st _=>(x.2.1.len - st.1).toNat) ⟨0,T1,cs,rfl,by omega,hRh.ext e2,⟨sth.upd.trans (e2.upd _),sth.new⟩,hkd⟩ ?_
   rintro _ h6 ⟨k,T2,cs2,rfl,hk2,hR6,st6,hkd6⟩ Q2 hQ2
   dsimp only
   refine Zj (fun q2=>?_) fun q2=>?_
   ·obtain ⟨f,hf⟩:∃ f,x.2.2[k]?=some f:=⟨_,List.getElem?_eq_getElem (by omega)⟩
    obtain ⟨b2,o2,_,_,hidx2,hcell2⟩:=ZaI YU (hR6.spaces.rows x hxm).1 hf (by decide)
    obtain ⟨c,hcc,hck⟩:=memF x hxm f (List.mem_of_getElem? hf)
    obtain ⟨c2,hcc2,hck2⟩:=hkd6.ksome hcc
    refine hidx2 rfl ?_
    have w0:=hcell2 0 _ rfl
    have w1:=hcell2 1 _ rfl
    have w2:=hcell2 2 _ rfl
    have w3:=hcell2 3 _ rfl
    simp only [Nat.add_zero] at w0
    have hwr:IntKind.wrap .i64 ((k:Int)+1)=((k+1:Nat):Int):=by rw [ZR (by omega) (by omega)];rfl
    obtain ⟨f1,f2,f3,f4,_⟩:=f
    have e7:Ext h6 (Zb.puts (h6.push (.cells [iv 0,iv 0,iv 0,iv 0].toArray 46 (0,0))) (sz h6) 0 [iv f1,iv f2,iv f3,iv f4]):=Z3 (ZO (Ext.refl _)) (Nat.le_refl _)
    have a7:obj (Zb.puts (h6.push (.cells [iv 0,iv 0,iv 0,iv 0].toArray 46 (0,0))) (sz h6) 0 [iv f1,iv f2,iv f3,iv f4]) (sz h6)=some (.cells [iv f1,iv f2,iv f3,iv f4].toArray 46 (0,0)):=by simp (maxDischargeDepth:=60) only [Zs,Zr,evC,Nqa,Nqb,Nqc,Nqd,Nqe,reduceCtorEq]
    have c6:=hR6.cells
    have lc6:=ZS c6
    simp (maxDischargeDepth:=60) only [Zs,Zr,evC,Nqa,Nqb,Nqc,Nqd,Nqe,reduceCtorEq,w0,w1,w2,w3,c6,YH lc6]
    generalize Zb.puts (h6.push (.cells [iv 0,iv 0,iv 0,iv 0].toArray 46 (0,0))) (sz h6) 0 [iv f1,iv f2,iv f3,iv f4]=h7 at e7 a7 ⊢
    have hR7:=hR6.ext e7
    have hid:1≤f1:=by
      obtain ⟨g,_,_,g2⟩:=hR7.counts
      exact (g2 f1 c2 hcc2).1
    dsimp only at hck
    refine Zh2 hR7.lt (f:=(f1,f2,f3,f4,())) fun v h8 T8 hc8 e8 hT8 hn8 hl8=>?_
    have a8:=Yh a7 e8
    have hR8:=hR7.ext e8
    have c8:=hR8.cells
    simp (maxDischargeDepth:=60) only [Zs,Zr,evC,Nqa,Nqb,Nqc,Nqd,Nqe,reduceCtorEq,a8,c8,hc8.one]
    obtain ⟨g,hm,g1,g2⟩:=hR8.counts
    refine hm.put f1 _ fun h9 hm9 u9 z9=>?_
    have hkf:(Zdh (f1,f2,f3,f4,())).kind=f3:=ZmG _ (hck▸ZnP c) rfl
    have hg:(g f1).isSome=true:=by obtain ⟨_,v',hv',_⟩:=g2 f1 c2 hcc2;rw [hv'];rfl
    rw [hg,if_pos rfl] at hm9
    have z9':sz h9=sz h8:=z9
    have hc9:Znm h9 T8 f1 v (Zdh (f1,f2,f3,f4,())):=hc8.congr (fun _ _ h=>h) fun k j _ hkk=>by
      refine u9.old k (hl8 k (by rw [hkk];exact fun e=>by cases e)) fun e=>?_
      subst e
      rw [hT8 _ _ hR6.tcb] at hkk
      injection hkk with hkk
      unfold tg at hkk
      omega
    have hR9:=hR8.putC hid u9 hT8 (fun k hk=>by rw [z9'];exact hl8 k hk) (by rw [hkf];exact hm9) g1 g2 hc9
    refine hQ2 _ _ ⟨k+1,T8,_,by rw [hwr],by omega,hR9,?_,hkd6.put hcc (hkf.trans hck.symm)⟩ (by rw [hwr];dsimp only;omega)
    have e78:=e7.trans e8
    refine ⟨(st6.upd.trans (e78.upd _)).trans (u9.mono fun k _ hk=>by subst hk;rw [hR.tcb];exact fun e=>by cases e),fun k hk=>?_⟩
    rcases hn8 k hk with h9 | h9
    ·exact st6.new k h9
    ·right
     exact Nat.le_trans (Nat.le_trans st6.upd.size e7.size) h9
   ·have hwr:IntKind.wrap .i64 ((i:Int)+1)=((i+1:Nat):Int):=by rw [ZR (by omega) (by omega)];rfl
    exact hQ _ _ ⟨i+1,T2,cs2,by rw [hwr],by omega,hR6,st6,hkd6⟩ (by rw [hwr];dsimp only;omega)
  refine Zh ?_
  rw [Zsa (n:=some cb) (by rw [hRh.cells];rfl)]
  obtain ⟨g0,hm0,g01,g02⟩:=hRh.counts
  refine hm0.range fun h5 hr5 e5 z5=>?_
  have hR5:=hRh.ext e5
  simp only [ZE] at hr5 z5 ⊢
  have itn:∀ k,k<sz hh→k≠sz hh:=fun k hk e=>by omega
  refine Zds (fun _ h6=>∃ (T2:Nat→Option Nat) (cs2:Int→Option Cnt) (g:Int→Option Value) (rem:Int→Prop) (L:Nat),ZdE h6 T2 sb cb nb sp ⟨none,0,0⟩ ls { S4 with counts:=cs2 }∧Stp T T2 h h6∧Zj7 S.counts cs2∧Zec h6 cb (sz hh) g S4.nc rem L∧T2 (sz hh)=none ∧
      ∀ id,¬ rem id→∀ c,S.counts id=some c→cs2 id=some (Zhq id c.kind)) (fun _ h6=>Zt9 h6 cb (sz hh))
    ⟨T1,cs,g0,_,_,hR5,⟨sth.upd.trans (e5.upd _),sth.new⟩,hkd,hr5,hRh.no (Nat.le_refl _),fun id hrem c hc=>?_⟩ ?_
  ·exfalso
   apply hrem
   obtain ⟨c',hc',_⟩:=hkd.ksome hc
   obtain ⟨_,v,hv,_⟩:=g02 id c' hc'
   rw [hv]
   rfl
  rintro _ h6 ⟨T2,cs2,g,rem,L,hR6,st6,hkd6,hr6,ht6,hdone⟩ Q2 hQ2
  refine ZoW (fun s h7=>(s.1=true∧∃ k rem' L',rem'=(fun j=>rem j∧j≠k)∧ZdF h7 cb (sz hh) g S4.nc rem' L' k∧L'<L∧ZdE h7 T2 sb cb nb sp ⟨none,0,0⟩ ls { S4 with counts:=cs2 }∧Stp T T2 h h7∧(g k).isSome=true)∨(s.1=false∧h7=h6∧∀ k,¬ rem k)) ?_ ?_
  ·rintro ⟨b,_⟩ h7 (⟨hb,k,rem',L',hrem',hra,hL,hR7,st7,hgk⟩ | ⟨hb,rfl,hnone⟩)
   ·simp only at hb
    subst hb
    refine ZF (hra.ent fun v hv=>⟨k,rfl,?_⟩)
    obtain ⟨g',hm',g1',g2'⟩:=hR7.counts
    obtain ⟨rfl,_⟩:=hm'.uniq hra.go.map
    cases hck:cs2 k with
    | none=>rw [g1' k hck] at hv;cases hv
    | some c =>
      obtain ⟨hid,w,hw,hwr⟩:=g2' k c hck
      rw [hv] at hw
      cases hw
      refine ⟨(w,c.kind,()),rfl,?_⟩
      have c7:=hR7.cells
      have lc7:=ZS c7
      have e8:Ext h7 (Zb.puts (h7.push (.cells [.nilIface,iv 0].toArray 142 (0,0))) (sz h7) 0 [w,iv c.kind]):=Z3 (ZO (Ext.refl _)) (Nat.le_refl _)
      have a8:obj (Zb.puts (h7.push (.cells [.nilIface,iv 0].toArray 142 (0,0))) (sz h7) 0 [w,iv c.kind]) (sz h7)=some (.cells [w,iv c.kind].toArray 142 (0,0)):=by simp (maxDischargeDepth:=60) only [Zs,Zr,evC,Nqa,Nqb,Nqc,Nqd,Nqe,reduceCtorEq]
      simp (maxDischargeDepth:=60) only [Zs,Zr,evC,Nqa,Nqb,Nqc,Nqd,Nqe,reduceCtorEq,hwr.one,c7,YH lc7]
      generalize Zb.puts (h7.push (.cells [.nilIface,iv 0].toArray 142 (0,0))) (sz h7) 0 [w,iv c.kind]=h8 at e8 a8 ⊢
      have hR8:=hR7.ext e8
      obtain ⟨c0,hc0,hk0⟩:∃ c0,S.counts k=some c0∧c0.kind=c.kind:=by
        have:=hkd6 k
        rw [hck] at this
        cases hx:S.counts k with
        | none=>rw [hx] at this;cases this
        | some c0=>rw [hx] at this;exact ⟨c0,rfl,Option.some.inj this⟩
      refine Zh2 hR8.lt (f:=(k,0,c.kind,0,())) fun v9 h9 T9 hc9 e9 hT9 hn9 hl9=>?_
      have a9:=Yh a8 e9
      have hR9:=hR8.ext e9
      have c9:=hR9.cells
      simp (maxDischargeDepth:=60) only [Zs,Zr,evC,Nqa,Nqb,Nqc,Nqd,Nqe,reduceCtorEq,a9,c9,hc9.one]
      have e79:=e8.trans e9
      obtain ⟨hl1,hl2,hl3⟩:=hra.go.lt
      have hra9:=hra.congr (h':=h9) (e79.old cb hl1) (e79.old (sz hh) hl2)
      refine hra9.put _ fun h10 hr10 u10 z10=>?_
      have z10':sz h10=sz h9:=z10
      obtain ⟨g9,hm9,g91,g92⟩:=hR9.counts
      obtain ⟨rfl,_⟩:=hm9.uniq hra9.go.map
      have hkf:(Zhq k c.kind).kind=c.kind:=Zjr _ (ZnP c)
      have hc10:Znm h10 T9 k v9 (Zhq k c.kind):=Znm.congr (c:=Zhq k c.kind) hc9 (fun _ _ h=>h) fun q j _ hkk=>by
        refine u10.old q (hl9 q (by rw [hkk];exact fun e=>by cases e)) fun e=>?_
        subst e
        rw [hT9 _ _ hR7.tcb] at hkk
        injection hkk with hkk
        unfold tg at hkk
        omega
      have hR10:=hR9.putC (c:=Zhq k c.kind) hid u10 hT9 (fun q hq=>by rw [z10'];exact hl9 q hq) (by rw [hkf];exact hr10.map) g91 g92 hc10
      have st10:Stp T T9 h h10:=by
        refine ⟨(st7.upd.trans (e79.upd _)).trans (u10.mono fun q _ hq=>by subst hq;rw [hR.tcb];exact fun e=>by cases e),fun q hq=>?_⟩
        rcases hn9 q hq with h11 | h11
        ·exact st7.new q h11
        ·right
         exact Nat.le_trans (Nat.le_trans st7.upd.size e8.size) h11
      refine hQ2 _ _ ⟨T9,_,_,rem',L',hR10,st10,hkd6.put hc0 (hkf.trans hk0.symm),hr10,?_,fun id hrem c' hc'=>?_⟩ (by rw [Zgt hr10,Zgt hr6];exact hL)
      ·cases h11:T9 (sz hh) with
       | none=>rfl
       | some t =>
         rcases hn9 (sz hh) (by rw [h11];exact fun e=>by cases e) with h12 | h12
         ·exact (h12 ht6).elim
         ·have h13:sz h7≤sz h8:=e8.size
          have h14:sz hh<sz h7:=hl2
          omega
      ·dsimp only
       split
       ·rename_i e
        subst e
        rw [hc0] at hc'
        cases hc'
        rw [hk0]
       ·rename_i hne
        refine hdone id (fun h11=>hrem ?_) c' hc'
        rw [hrem']
        exact ⟨h11,hne⟩
   ·simp only at hb
    subst hb
    refine Zl ?_
    rw [Y9]
    refine hk h7 T2 ⟨cb,nb,sp,⟨none,0,0⟩,ls,?_⟩ st6
    rw [fin4]
    have:cs2=fun id=>(S.counts id).map fun c=>Zhq id c.kind:=by
      funext id
      cases hx:S.counts id with
      | none=>exact hkd6.knone hx
      | some c=>exact hdone id (hnone id) c hx
    rw [← this]
    exact hR6
  ·intro Q3 hQ3
   refine hr6.next (fun hn=>hQ3 _ _ (.inr ⟨rfl,rfl,hn⟩)) fun k v h7 L' hkr hv hra hL u7 z7=>hQ3 _ _ (.inl ⟨rfl,k,_,L',rfl,hra,hL,?_,?_,by rw [hv];rfl⟩)
   ·refine hR6.congr u7.size fun q hq=>u7.old q (hR6.lt q hq) fun e=>?_
    subst e
    exact hq ht6
   ·refine ⟨⟨Nat.le_trans st6.upd.size u7.size,fun q hq hn=>?_⟩,st6.new⟩
    have hqq:q<sz h:=hq
    rw [u7.old q (Nat.lt_of_lt_of_le hq st6.upd.size) (fun e=>?_),st6.upd.old q hq hn]
    have:=X6 e5
    have h11:sz h≤sz hh:=sth.upd.size
    omega
end Go.Proofs.YtbppjmcinoffnaaGreat.Tk
namespace Go.Proofs.YtbppjmcinoffnaaGreat
open Go Go.Fw
open Nat renaming reduceAdd→Nqa,reduceLT→Nqb,reduceLeDiff→Nqc,reduceEqDiff→Nqd,reduceMul→Nqe
abbrev TT:=Nat→Option (Nat × Nat)
def prj (j:Nat) (T:TT):Nat→Option Nat:=fun k=>match T k with
  | some (c,t)=>if c=j then some t else none
  | none=>none
def cmb (j:Nat) (T:TT) (S:Nat→Option Nat):TT:=fun k=>match S k with
  | some t=>some (j,t)
  | none=>match T k with
    | some (c,t)=>if c=j then none else some (c,t)
    | none=>none
theorem ZoG {j:Nat} {T:TT} {k t:Nat} (h:T k=some (j,t)):prj j T k=some t:=by unfold prj;rw [h];exact if_pos rfl
theorem ZcJ {i j:Nat} {T:TT} {k t:Nat} (h:T k=some (j,t)) (hn:i≠j):prj i T k=none:=by unfold prj;rw [h];exact if_neg (fun e=>hn e.symm)
theorem Za2 {j:Nat} {T:TT} {k:Nat} (h:T k=none):prj j T k=none:=by unfold prj;rw [h]
theorem ZfQ {j:Nat} {T:TT} {k:Nat} (h:prj j T k≠none):∃ t,T k=some (j,t):=by
  unfold prj at h
  cases hT:T k with
  | none=>rw [hT] at h;exact (h rfl).elim
  | some x =>
    obtain ⟨c,t⟩:=x
    rw [hT] at h
    dsimp only at h
    split at h
    ·rename_i e;exact ⟨t,by rw [e]⟩
    ·exact (h rfl).elim
theorem ZhR (j:Nat) (T:TT) (S:Nat→Option Nat):prj j (cmb j T S)=S:=by
  funext k
  unfold prj cmb
  cases hS:S k with
  | some t=>simp
  | none =>
    cases hT:T k with
    | none=>rfl
    | some x =>
      obtain ⟨c,t⟩:=x
      dsimp only
      by_cases e:c=j
      ·rw [if_pos e]
      ·rw [if_neg e];dsimp only;rw [if_neg e]
theorem ZpH {i j:Nat} (hn:i≠j) {T:TT} {S:Nat→Option Nat} {h h':Zb} (st:Stp (prj j T) S h h') (lt:∀ k,T k≠none→k<h.size):prj i (cmb j T S)=prj i T:=by
  funext k
  cases hS:S k with
  | some t =>
    have h1:cmb j T S k=some (j,t):=by unfold cmb;rw [hS]
    rw [ZcJ h1 hn]
    rcases st.new k (by rw [hS];exact fun e=>by cases e) with h2 | h2
    ·obtain ⟨u,hu⟩:=ZfQ h2
     rw [ZcJ hu hn]
    ·have:T k=none:=Classical.byContradiction fun h9=>by have:=lt k h9;omega
     rw [Za2 this]
  | none =>
    cases hT:T k with
    | none =>
      have h1:cmb j T S k=none:=by unfold cmb;rw [hS,hT]
      rw [Za2 h1,Za2 hT]
    | some x =>
      obtain ⟨c,t⟩:=x
      by_cases e:c=j
      ·have h1:cmb j T S k=none:=by unfold cmb;rw [hS,hT];exact if_pos e
       subst e
       rw [Za2 h1,ZcJ hT hn]
      ·have h1:cmb j T S k=some (c,t):=by unfold cmb;rw [hS,hT];exact if_neg e
       unfold prj
       rw [h1,hT]
theorem Zus {j c:Nat} (hn:c≠j) {T:TT} {S:Nat→Option Nat} {h h':Zb} (st:Stp (prj j T) S h h') (lt:∀ k,T k≠none→k<h.size) {k t:Nat} (hk:T k=some (c,t)):cmb j T S k=some (c,t):=by
  unfold cmb
  cases hS:S k with
  | some u =>
    rcases st.new k (by rw [hS];exact fun e=>by cases e) with h2 | h2
    ·obtain ⟨v,hv⟩:=ZfQ h2
     rw [hk] at hv
     injection hv with hv
     injection hv with hv
     exact (hn hv).elim
    ·have:=lt k (by rw [hk];exact fun e=>by cases e)
     omega
  | none=>rw [hk];exact if_neg hn
structure Zaq (T T':TT) (h h':Zb):Prop where
  upd:Upd (fun k=>T k≠none) h h'
  new:∀ k,T' k≠none→T k≠none∨h.size≤k
theorem Zaq.refl (T:TT) (h:Zb):Zaq T T h h:=⟨Upd.refl _ _,fun _ h=> .inl h⟩
theorem Zaq.trans {T T' T'':TT} {a b c:Zb} (h:Zaq T T' a b) (h':Zaq T' T'' b c):Zaq T T'' a c:=by
  refine ⟨⟨Nat.le_trans h.upd.size h'.upd.size,fun k hk hn=>?_⟩,fun k hk=>?_⟩
  ·rw [h'.upd.old k (Nat.lt_of_lt_of_le hk h.upd.size) fun hT=>?_,h.upd.old k hk hn]
   rcases h.new k hT with h1 | h1
   ·exact hn h1
   ·have:k<a.size:=hk
    omega
  ·rcases h'.new k hk with h1 | h1
   ·exact h.new k h1
   ·exact .inr (Nat.le_trans h.upd.size h1)
theorem Zaq.ext {T T':TT} {a b c:Zb} (h:Zaq T T' a b) (e:Ext b c):Zaq T T' a c:=⟨h.upd.trans (e.upd _),h.new⟩
theorem Zaq.pre {T T':TT} {a b c:Zb} (e:Ext a b) (h:Zaq T T' b c):Zaq T T' a c:=⟨(e.upd _).trans h.upd,fun k hk=>(h.new k hk).imp (fun x=>x) fun x=>Nat.le_trans e.size x⟩
theorem Zaq.keep {T T':TT} {h h':Zb} (st:Zaq T T' h h') {b:Nat} {x:Obj} (hq:obj h b=some x) (hT:T b=none):obj h' b=some x:=XM hq st.upd fun e=>e hT
theorem Zaq.none_ {T T':TT} {h h':Zb} (st:Zaq T T' h h') {b:Nat} (hT:T b=none) (hl:b<sz h):T' b=none:=Classical.byContradiction fun h9=>by
  rcases st.new b h9 with h1 | h1
  ·exact h1 hT
  ·have h2:sz h≤b:=h1
   omega
structure Pe where
  cl:Cl
  conn:Int
  rd:Option (List UInt8 × Bool)
abbrev Gt:=Int × Int × Int × Rq
def gtL (g:Gt):List Value:=[iv g.1,iv g.2.1,iv g.2.2.1,iv g.2.2.2.1,.int .u8 g.2.2.2.2.1,iv g.2.2.2.2.2.1,iv g.2.2.2.2.2.2.1,.string g.2.2.2.2.2.2.2.1,iv g.2.2.2.2.2.2.2.2.1]
theorem ZgX (g:Gt):(gtL g).length=9:=rfl
structure Cu where
  ps:Int→Bool
  cs:List St.Cn
  srv:Tk.Srv
  up:Bool
  pes:List Pe
  now:Int
  grs:List Gt
abbrev Pm:=Nat × Nat × Pe
def rdA (rb:Nat):Option (List UInt8 × Bool)→Option Addr
  | some _=>some ⟨rb,0,none⟩
  | none=>none
def peL (x:Pm):List Value:=[.pointer (some ⟨x.1,0,none⟩),iv x.2.2.conn,.pointer (rdA x.2.1 x.2.2.rd)]
theorem Zlj (x:Pm):(peL x).length=3:=rfl
structure RdR (h:Zb) (T:Nat→Option Nat) (rb:Nat) (st:List UInt8) (br:Bool):Prop where
  cells:∃ s:Sl,h[rb]?=some (.cells #[slV s,.bool br] 173 (0,0))∧Bytes h s st∧(∀ k,s.blk=some k→T k=some 1)∧(br=true→s=⟨none,0,0⟩∧st=[])
  trb:T rb=some 0
structure WR (h:Zb) (T:TT) (wb nb sb:Nat) (sp sg:Sl) (pl:List Pm) (w:Cu):Prop where
  cells:obj h wb=some (.cells [.pointer (some ⟨nb,0,none⟩),.pointer (some ⟨sb,0,none⟩),.bool w.up,slV sp,iv w.now,slV sg].toArray 82 (0,0))
  row:Own h 0 sp 3 (pl.flatMap peL)
  grs:Own h 0 sg 9 (w.grs.flatMap gtL)
  net:St.Net h (prj 1 T) nb w.ps w.cs
  srv:Tk.Server h (prj 2 T) sb w.srv
  pes:pl.map (·.2.2)=w.pes
  cls:∀ (i:Nat) (x:Pm),pl[i]?=some x→Client h (prj (3+2*i) T) x.1 x.2.2.cl
  rds:∀ (i:Nat) (x:Pm) (st:List UInt8) (br:Bool),pl[i]?=some x→x.2.2.rd=some (st,br)→RdR h (prj (4+2*i) T) x.2.1 st br
  twb:T wb=some (0,0)
  tsp:∀ k,sp.blk=some k→T k=some (0,1)
  tsg:∀ k,sg.blk=some k→T k=some (0,2)
  lt:∀ k,T k≠none→k<sz h
theorem RdR.congr {h h':Zb} {T:Nat→Option Nat} {rb:Nat} {st:List UInt8} {br:Bool} (hr:RdR h T rb st br) (he:∀ k,T k≠none→h'[k]?=h[k]?):RdR h' T rb st br:=by
  obtain ⟨s,h1,h2,h3,h4⟩:=hr.cells
  exact ⟨⟨s,(he rb (by rw [hr.trb];exact fun e=>by cases e)).trans h1,h2.congr fun b o hp _ _=>he b (by rw [h3 b (by simp [Sl.blk,hp])];exact fun e=>by cases e),h3,h4⟩,hr.trb⟩
section
variable {h h':Zb} {T:TT} {wb nb sb:Nat} {sp sg:Sl} {pl:List Pm} {w:Cu}
theorem WR.no (hR:WR h T wb nb sb sp sg pl w) {k:Nat} (hk:sz h≤k):T k=none:=Classical.byContradiction fun h9=>by have:=hR.lt k h9;omega
theorem WR.congr (hR:WR h T wb nb sb sp sg pl w) (hz:sz h≤sz h') (he:∀ k,T k≠none→h'[k]?=h[k]?):WR h' T wb nb sb sp sg pl w:=by
  have q:∀ {k c t},T k=some (c,t)→h'[k]?=h[k]?:=fun hk=>he _ (by rw [hk];exact fun e=>by cases e)
  have p:∀ {j k},prj j T k≠none→h'[k]?=h[k]?:=fun hk=>by obtain ⟨t,ht⟩:=ZfQ hk;exact q ht
  have u:Upd (fun k=>T k=none) h h':=⟨hz,fun k _ hn=>he k hn⟩
  have d:∀ j k,k<h.size→T k=none→prj j T k=none:=fun j k _ hk=>Za2 hk
  exact ⟨(q hR.twb).trans hR.cells,hR.row.congr fun b hb _ _=>q (hR.tsp b hb),hR.grs.congr fun b hb _ _=>q (hR.tsg b hb),hR.net.upd u (d 1),Tk.Zk2 hR.srv hz fun k hk=>p hk,hR.pes,fun i x hx=>(hR.cls i x hx).upd u (d _),
    fun i x st br hx hr=>(hR.rds i x st br hx hr).congr fun k hk=>p hk,hR.twb,hR.tsp,hR.tsg,fun k hk=>Nat.lt_of_lt_of_le (hR.lt k hk) hz⟩
theorem WR.ext (hR:WR h T wb nb sb sp sg pl w) (e:Ext h h'):WR h' T wb nb sb sp sg pl w:=hR.congr e.size fun k hk=>e.old k (hR.lt k hk)
theorem WR.others (hR:WR h T wb nb sb sp sg pl w) {j:Nat} (hj:j≠0) {S:Nat→Option Nat} (st:Stp (prj j T) S h h'):(∀ {k c t},T k=some (c,t)→c≠j→h'[k]?=h[k]?)∧(∀ {i},i≠j→∀ k,k<h.size→prj j T k≠none→prj i T k=none)∧sz h≤sz h'∧(∀ k,cmb j T S k≠none→(∀ k,S k≠none→k<sz h')→k<sz h')∧Zaq T (cmb j T S) h h':=by
  refine ⟨fun {k c t} hk hn=>st.upd.old k (hR.lt k (by rw [hk];exact fun e=>by cases e)) fun e=>?_,fun {i} hi k _ hk=>?_,st.upd.size,fun k hk hS=>?_,⟨st.upd.mono fun k _ hk=>?_,fun k hk=>?_⟩⟩
  ·obtain ⟨u,hu⟩:=ZfQ e
   rw [hk] at hu
   injection hu with hu
   injection hu with hu
   exact hn hu
  ·obtain ⟨u,hu⟩:=ZfQ hk
   exact ZcJ hu hi
  ·unfold cmb at hk
   cases hs:S k with
   | some t=>exact hS k (by rw [hs];exact fun e=>by cases e)
   | none =>
     rw [hs] at hk
     have:T k≠none:=fun e=>by rw [e] at hk;exact hk rfl
     exact Nat.lt_of_lt_of_le (hR.lt k this) st.upd.size
  ·obtain ⟨u,hu⟩:=ZfQ hk
   rw [hu];exact fun e=>by cases e
  ·unfold cmb at hk
   cases hs:S k with
   | some t =>
     rcases st.new k (by rw [hs];exact fun e=>by cases e) with h9 | h9
     ·obtain ⟨u,hu⟩:=ZfQ h9
      left;rw [hu];exact fun e=>by cases e
     ·exact .inr h9
   | none =>
     rw [hs] at hk
     left
     exact fun e=>by rw [e] at hk;exact hk rfl
end
section
variable {h h':Zb} {T:TT} {wb nb sb:Nat} {sp sg:Sl} {pl:List Pm} {w:Cu}
theorem WR.part (hR:WR h T wb nb sb sp sg pl w) {j:Nat} (hj:j≠0) {S:Nat→Option Nat} (st:Stp (prj j T) S h h') (hlt:∀ k,S k≠none→k<sz h') {pl':List Pm} {w':Cu}
    (eup:w'.up=w.up) (enow:w'.now=w.now) (egrs:w'.grs=w.grs) (epl:pl'.flatMap peL=pl.flatMap peL) (epes:pl'.map (·.2.2)=w'.pes)
    (hnet:(j=1∧St.Net h' S nb w'.ps w'.cs)∨(j≠1∧w'.ps=w.ps∧w'.cs=w.cs))
    (hsrv:(j=2∧Tk.Server h' S sb w'.srv)∨(j≠2∧w'.srv=w.srv))
    (hcl:∀ (i:Nat) (x:Pm),pl'[i]?=some x→(j=3+2*i∧Client h' S x.1 x.2.2.cl)∨(j≠3+2*i∧∃ x0,pl[i]?=some x0∧x.1=x0.1∧x.2.2.cl=x0.2.2.cl))
    (hrd:∀ (i:Nat) (x:Pm) (l:List UInt8) (br:Bool),pl'[i]?=some x→x.2.2.rd=some (l,br)→(j=4+2*i∧RdR h' S x.2.1 l br)∨(j≠4+2*i∧∃ x0,pl[i]?=some x0∧x.2.1=x0.2.1∧x0.2.2.rd=some (l,br))) :
    WR h' (cmb j T S) wb nb sb sp sg pl' w'∧Zaq T (cmb j T S) h h':=by
  obtain ⟨q,ap,hz,hl2,s2⟩:=hR.others hj st
  have keep:∀ {k t},T k=some (0,t)→cmb j T S k=some (0,t):=fun hk=>Zus (Ne.symm hj) st hR.lt hk
  have pe:∀ {i},i≠j→prj i (cmb j T S)=prj i T:=fun hi=>ZpH hi st hR.lt
  refine ⟨⟨?_,?_,?_,?_,?_,epes,fun i x hx=>?_,fun i x l br hx hr=>?_,keep hR.twb,fun k hk=>keep (hR.tsp k hk),fun k hk=>keep (hR.tsg k hk),fun k hk=>hl2 k hk hlt⟩,s2⟩
  ·rw [eup,enow];exact (q hR.twb (Ne.symm hj)).trans hR.cells
  ·rw [epl];exact hR.row.congr fun b hb _ _=>q (hR.tsp b hb) (Ne.symm hj)
  ·rw [egrs];exact hR.grs.congr fun b hb _ _=>q (hR.tsg b hb) (Ne.symm hj)
  ·rcases hnet with ⟨rfl,h1⟩ | ⟨h1,e1,e2⟩
   ·rw [ZhR];exact h1
   ·rw [pe (Ne.symm h1),e1,e2];exact hR.net.upd st.upd (ap (Ne.symm h1))
  ·rcases hsrv with ⟨rfl,h1⟩ | ⟨h1,e1⟩
   ·rw [ZhR];exact h1
   ·rw [pe (Ne.symm h1),e1]
    exact Tk.Zk2 hR.srv hz fun k hk=>by
      obtain ⟨t,ht⟩:=ZfQ hk
      exact q ht (Ne.symm h1)
  ·rcases hcl i x hx with ⟨rfl,h1⟩ | ⟨h1,x0,h2,e1,e2⟩
   ·rw [ZhR];exact h1
   ·rw [pe (Ne.symm h1),e1,e2];exact (hR.cls i x0 h2).upd st.upd (ap (Ne.symm h1))
  ·rcases hrd i x l br hx hr with ⟨rfl,h1⟩ | ⟨h1,x0,h2,e1,e2⟩
   ·rw [ZhR];exact h1
   ·rw [pe (Ne.symm h1),e1]
    exact (hR.rds i x0 l br h2 e2).congr fun k hk=>by
      obtain ⟨t,ht⟩:=ZfQ hk
      exact q ht (Ne.symm h1)
theorem WR.zero (hR:WR h T wb nb sb sp sg pl w) (hu:Upd (fun k=>∃ t,T k=some (0,t)) h h') {T':TT} (hT:∀ k,T k≠none→T' k=T k) (hn:∀ k,T' k≠none→T k≠none∨(h.size≤k∧k<sz h'∧∃ t,T' k=some (0,t)))
    {sp' sg':Sl} {pl':List Pm} {w':Cu} (cells:obj h' wb=some (.cells [.pointer (some ⟨nb,0,none⟩),.pointer (some ⟨sb,0,none⟩),.bool w'.up,slV sp',iv w'.now,slV sg'].toArray 82 (0,0)))
    (row:Own h' 0 sp' 3 (pl'.flatMap peL)) (grs:Own h' 0 sg' 9 (w'.grs.flatMap gtL)) (tsp:∀ k,sp'.blk=some k→T' k=some (0,1)) (tsg:∀ k,sg'.blk=some k→T' k=some (0,2)) (epes:pl'.map (·.2.2)=w'.pes) (e1:w'.ps=w.ps) (e2:w'.cs=w.cs) (e3:w'.srv=w.srv)
    (hcl:∀ (i:Nat) (x:Pm),pl'[i]?=some x→Client h (prj (3+2*i) T) x.1 x.2.2.cl)
    (hrd:∀ (i:Nat) (x:Pm) (l:List UInt8) (br:Bool),pl'[i]?=some x→x.2.2.rd=some (l,br)→RdR h (prj (4+2*i) T) x.2.1 l br):WR h' T' wb nb sb sp' sg' pl' w'∧Zaq T T' h h':=by
  have q:∀ {k c t},T k=some (c,t)→c≠0→h'[k]?=h[k]?:=fun {k c t} hk hc=>hu.old k (hR.lt k (by rw [hk];exact fun e=>by cases e)) fun ⟨u,e⟩=>by
    rw [hk] at e
    injection e with e
    injection e with e
    exact hc e
  have ap:∀ {i},i≠0→∀ k,k<h.size→(∃ t,T k=some (0,t))→prj i T k=none:=fun hi k _ ⟨t,ht⟩=>ZcJ ht hi
  have pe:∀ {i},i≠0→prj i T'=prj i T:=fun {i} hi=>by
    funext k
    cases hk:T k with
    | some x =>
      have:=hT k (by rw [hk];exact fun e=>by cases e)
      unfold prj
      rw [this]
    | none =>
      rw [Za2 hk]
      cases hk':T' k with
      | none=>exact Za2 hk'
      | some y =>
        rcases hn k (by rw [hk'];exact fun e=>by cases e) with h1 | ⟨_,_,t,ht⟩
        ·exact (h1 hk).elim
        ·exact ZcJ ht hi
  have kp:∀ {k x},T k=some x→T' k=some x:=fun {k x} hk=>(hT k (by rw [hk];exact fun e=>by cases e)).trans hk
  refine ⟨⟨cells,row,grs,?_,?_,epes,fun i x hx=>?_,fun i x l br hx hr=>?_,kp hR.twb,tsp,tsg,fun k hk=>?_⟩,hu.mono fun k _ ⟨t,ht⟩=>(by rw [ht];exact fun e=>by cases e),fun k hk=>?_⟩
  ·rw [pe (by decide),e1,e2];exact hR.net.upd hu (ap (by decide))
  ·rw [pe (by decide),e3]
   exact Tk.Zk2 hR.srv hu.size fun k hk=>by
     obtain ⟨t,ht⟩:=ZfQ hk
     exact q ht (by decide)
  ·rw [pe (by omega)];exact (hcl i x hx).upd hu (ap (by omega))
  ·rw [pe (by omega)]
   exact (hrd i x l br hx hr).congr fun k hk=>by
     obtain ⟨t,ht⟩:=ZfQ hk
     exact q ht (by omega)
  ·rcases hn k hk with h1 | ⟨_,h1,_⟩
   ·exact Nat.lt_of_lt_of_le (hR.lt k h1) hu.size
   ·exact h1
  ·rcases hn k hk with h1 | ⟨h1,_⟩
   ·exact .inl h1
   ·exact .inr h1
theorem Xm {α:Type} {l:List α} {i k:Nat} {a b:α} (h:(l.set i a)[k]?=some b):(k=i∧b=a∧i<l.length)∨(k≠i∧l[k]?=some b):=by
  by_cases e:i=k
  ·subst e
   left
   have hl:i<l.length:=by
     rcases Nat.lt_or_ge i l.length with h9 | h9
     ·exact h9
     ·rw [List.getElem?_eq_none (by simp only [List.length_set];exact h9)] at h;cases h
   rw [List.getElem?_set_self hl] at h
   exact ⟨rfl,(Option.some.inj h).symm,hl⟩
  ·right
   rw [List.getElem?_set_ne e] at h
   exact ⟨fun e2=>e e2.symm,h⟩
theorem ZiD:∀ {l:List Pm} {i:Nat} {x x':Pm},l[i]?=some x→peL x'=peL x→(l.set i x').flatMap peL=l.flatMap peL
  | [],_,_,_,h,_=>by cases h
  | a::l,0,x,x',h,e=>by
    cases Option.some.inj h
    simp only [List.set_cons_zero,List.flatMap_cons,e]
  | a::l,i+1,x,x',h,e=>by
    simp only [List.set_cons_succ,List.flatMap_cons]
    rw [ZiD (l:=l) (i:=i) h e]
theorem WR.netS (hR:WR h T wb nb sb sp sg pl w) {S:Nat→Option Nat} (st:Stp (prj 1 T) S h h') {ps:Int→Bool} {cs:List St.Cn} (hn:St.Net h' S nb ps cs):WR h' (cmb 1 T S) wb nb sb sp sg pl { w with ps:=ps,cs:=cs }∧Zaq T (cmb 1 T S) h h' :=
  hR.part (by decide) st hn.lt (w':={ w with ps:=ps,cs:=cs }) rfl rfl rfl rfl hR.pes (.inl ⟨rfl,hn⟩) (.inr ⟨by decide,rfl⟩) (fun i x hx=> .inr ⟨by omega,x,hx,rfl,rfl⟩) fun i x l br hx hr=> .inr ⟨by omega,x,hx,rfl,hr⟩
theorem Zy1 {T:Nat→Option Nat} {S:Tk.Srv} (hS:Tk.Server h T sb S):∀ k,T k≠none→k<sz h:=by
  obtain ⟨cb,nb,sp,so,ls,hR⟩:=hS
  exact hR.lt
theorem WR.srvS (hR:WR h T wb nb sb sp sg pl w) {S:Nat→Option Nat} (st:Stp (prj 2 T) S h h') {s:Tk.Srv} (hn:Tk.Server h' S sb s):WR h' (cmb 2 T S) wb nb sb sp sg pl { w with srv:=s }∧Zaq T (cmb 2 T S) h h' :=
  hR.part (by decide) st (Zy1 hn) (w':={ w with srv:=s }) rfl rfl rfl rfl hR.pes (.inr ⟨by decide,rfl,rfl⟩) (.inl ⟨rfl,hn⟩) (fun i x hx=> .inr ⟨by omega,x,hx,rfl,rfl⟩) fun i x l br hx hr=> .inr ⟨by omega,x,hx,rfl,hr⟩
def Cu.setP (w:Cu) (i:Nat) (p:Pe):Cu:={ w with pes:=w.pes.set i p }
def setC (x:Pm) (c:Cl):Pm:=(x.1,x.2.1,{ x.2.2 with cl:=c })
theorem WR.clS (hR:WR h T wb nb sb sp sg pl w) {i:Nat} {x:Pm} (hx:pl[i]?=some x) {S:Nat→Option Nat} (st:Stp (prj (3+2*i) T) S h h') {c:Cl} (hn:Client h' S x.1 c) :
    WR h' (cmb (3+2*i) T S) wb nb sb sp sg (pl.set i (setC x c)) (w.setP i { x.2.2 with cl:=c })∧Zaq T (cmb (3+2*i) T S) h h':=by
  refine hR.part (by omega) st hn.lt (w':=w.setP i { x.2.2 with cl:=c }) rfl rfl rfl (ZiD hx rfl) (by rw [List.map_set,hR.pes];rfl) (.inr ⟨by omega,rfl,rfl⟩) (.inr ⟨by omega,rfl⟩) (fun k y hy=>?_) fun k y l br hy hr=> .inr ⟨by omega,?_⟩
  ·rcases Xm hy with ⟨rfl,rfl,_⟩ | ⟨h1,h2⟩
   ·exact .inl ⟨rfl,hn⟩
   ·exact .inr ⟨by omega,y,h2,rfl,rfl⟩
  ·rcases Xm hy with ⟨rfl,rfl,_⟩ | ⟨h1,h2⟩
   ·exact ⟨x,hx,rfl,hr⟩
   ·exact ⟨y,h2,rfl,hr⟩
theorem WR.rdS (hR:WR h T wb nb sb sp sg pl w) {i:Nat} {x:Pm} (hx:pl[i]?=some x) {S:Nat→Option Nat} (st:Stp (prj (4+2*i) T) S h h') (hS:∀ k,S k≠none→k<sz h') {l l0:List UInt8} {br br0:Bool} (h0:x.2.2.rd=some (l0,br0)) (hn:RdR h' S x.2.1 l br) :
    WR h' (cmb (4+2*i) T S) wb nb sb sp sg (pl.set i (x.1,x.2.1,{ x.2.2 with rd:=some (l,br)})) (w.setP i { x.2.2 with rd:=some (l,br)})∧Zaq T (cmb (4+2*i) T S) h h':=by
  refine hR.part (by omega) st hS (w':=w.setP i { x.2.2 with rd:=some (l,br)}) rfl rfl rfl (ZiD hx (by unfold peL;rw [h0];rfl)) (by rw [List.map_set,hR.pes];rfl) (.inr ⟨by omega,rfl,rfl⟩) (.inr ⟨by omega,rfl⟩) (fun k y hy=> .inr ⟨by omega,?_⟩) fun k y m b hy hr=>?_
  ·rcases Xm hy with ⟨rfl,rfl,_⟩ | ⟨h1,h2⟩
   ·exact ⟨x,hx,rfl,rfl⟩
   ·exact ⟨y,h2,rfl,rfl⟩
  ·rcases Xm hy with ⟨rfl,rfl,_⟩ | ⟨h1,h2⟩
   ·cases Option.some.inj hr;exact .inl ⟨rfl,hn⟩
   ·exact .inr ⟨by omega,y,h2,rfl,hr⟩
theorem WR.rdN (hR:WR h T wb nb sb sp sg pl w) {i:Nat} {x:Pm} (hx:pl[i]?=some x) (h0:x.2.2.rd=none) (he:Ext h h') {b:Nat} (hb:sz h≤b) (hc:obj h' b=some (.cells [slV ⟨none,0,0⟩,.bool false].toArray 173 (0,0))) :
    ∃ T',WR h' T' wb nb sb sp sg (pl.set i (x.1,b,x.2.2)) w∧Zaq T T' h h'∧RdR h' (prj (4+2*i) T') b [] false:=by
  have hr:RdR h' (fun k=>if k=b then some 0 else none) b [] false:=⟨⟨⟨none,0,0⟩,hc,Row.nil h' 1,(fun k hk=>by cases hk),(fun e=>by cases e)⟩,if_pos rfl⟩
  obtain ⟨hW,hs⟩:=hR.part (j:=4+2*i) (by omega) (S:=fun k=>if k=b then some 0 else none) (h':=h') ⟨he.upd _,fun k hk=>by
      by_cases e:k=b
      ·subst e;exact .inr hb
      ·rw [if_neg e] at hk;exact (hk rfl).elim⟩ (fun k hk=>by
      by_cases e:k=b
      ·subst e;exact ZS hc
      ·rw [if_neg e] at hk;exact (hk rfl).elim) (pl':=pl.set i (x.1,b,x.2.2)) (w':=w) rfl rfl rfl (ZiD hx (by unfold peL;rw [h0];rfl)) (by
       rw [List.map_set,hR.pes]
       have:w.pes[i]?=some x.2.2:=by rw [← hR.pes,List.getElem?_map,hx];rfl
       exact List.ext_getElem? fun k=>by
         rw [List.getElem?_set]
         split
         ·rename_i e;subst e
          split
          ·exact this.symm
          ·rename_i hl;rw [List.getElem?_eq_none (by omega)] at this;cases this
         ·rfl) (.inr ⟨by omega,rfl,rfl⟩) (.inr ⟨by omega,rfl⟩) (fun k y hy=> .inr ⟨by omega,(by
      rcases Xm hy with ⟨rfl,rfl,_⟩ | ⟨h1,h2⟩
      ·exact ⟨x,hx,rfl,rfl⟩
      ·exact ⟨y,h2,rfl,rfl⟩)⟩) fun k y m bb hy hr=>(by
      rcases Xm hy with ⟨rfl,rfl,_⟩ | ⟨h1,h2⟩
      ·have hr':x.2.2.rd=some (m,bb):=hr
       rw [h0] at hr';cases hr'
      ·exact .inr ⟨by omega,y,h2,rfl,hr⟩)
  exact ⟨_,hW,hs,by rw [ZhR];exact hr⟩
end
end Go.Proofs.YtbppjmcinoffnaaGreat
namespace Go.Proofs.YtbppjmcinoffnaaGreat
open Go Go.Fw
open Nat renaming reduceAdd→Nqa,reduceLT→Nqb,reduceLeDiff→Nqc,reduceEqDiff→Nqd,reduceMul→Nqe
open Tk (Zt rI rB rS rP rM rL ZhD XC held1 ZaI)
def Wld (h:Zb) (T:TT) (wb:Nat) (sp:Sl) (w:Cu):Prop:=∃ nb sb sg pl,WR h T wb nb sb sp sg pl w
section
variable {h h':Zb} {T:TT} {wb nb sb:Nat} {sp sg:Sl} {pl:List Pm} {w:Cu}
theorem Wld.ext (hW:Wld h T wb sp w) (e:Ext h h'):Wld h' T wb sp w:=by
  obtain ⟨nb,sb,sg,pl,hR⟩:=hW
  exact ⟨nb,sb,sg,pl,hR.ext e⟩
theorem WR.pe (hR:WR h T wb nb sb sp sg pl w) {i:Nat} {p:Pe} (hp:w.pes[i]?=some p):∃ x,pl[i]?=some x∧x.2.2=p:=by
  rw [← hR.pes,List.getElem?_map] at hp
  cases hx:pl[i]? with
  | none=>rw [hx] at hp;cases hp
  | some x=>rw [hx] at hp;exact ⟨x,rfl,Option.some.inj hp⟩
theorem WR.pc (hR:WR h T wb nb sb sp sg pl w) {i:Nat} {x:Pm} (hx:pl[i]?=some x) {b:Nat} (hb:sp.blk=some b) {j:Nat} (hj:j<3) {v:Value} (hv:(peL x)[j]?=some v):ZL (i*3+j) (obj h b)=some v:=by
  rw [← Yw]
  exact Own.cell_ hR.row hb (by rw [Zgw Zlj pl i j x hx hj];exact hv)
theorem WR.wc (hR:WR h T wb nb sb sp sg pl w) {j:Nat} {v:Value} (hv:[Value.pointer (some ⟨nb,0,none⟩),.pointer (some ⟨sb,0,none⟩),.bool w.up,slV sp,iv w.now,slV sg][j]?=some v):ZL j (obj h wb)=some v:=Zt hR.cells hv
theorem WR.len (hR:WR h T wb nb sb sp sg pl w):sp.len=w.pes.length:=by
  have h1:=hR.row.len
  rw [Z7 Zlj] at h1
  have h2:pl.length=w.pes.length:=by rw [← hR.pes,List.length_map]
  omega
theorem WR.blk (hR:WR h T wb nb sb sp sg pl w) {i:Nat} {p:Pe} (hp:w.pes[i]?=some p):∃ b,sp.blk=some b:=by
  have hl:=Own.ptr_ hR.row (o:=0) (by
    rw [Z7 Zlj]
    obtain ⟨x,hx,_⟩:=hR.pe hp
    have:=Xk hx
    omega)
  obtain ⟨b,_,hb⟩:=hl
  exact ⟨b,hb⟩
theorem WR.idx (hR:WR h T wb nb sb sp sg pl w) {i:Nat} {p:Pe} (hp:w.pes[i]?=some p) {k:Int} (hi:k=(i:Int)) {K:Nat→Nat→Prop} (hk:∀ b,sp.blk=some b→K b (i*3)):Zap sp.ptr sp.len k 3 K:=by
  subst hi
  have hl:=hR.len
  have hlt:=Xk hp
  have hrl:=hR.row.len
  obtain ⟨b,hp2,hb⟩:=Own.ptr_ hR.row (o:=0) (by omega)
  refine ⟨b,0,hp2,by omega,by omega,?_⟩
  have e:0+(i:Int).toNat*3=i*3:=by omega
  rw [e]
  exact hk b hb
theorem WR.zero' (hR:WR h T wb nb sb sp sg pl w) (hu:Upd (fun k=>∃ t,T k=some (0,t)) h h') (hz:sz h'=sz h) {pl':List Pm} {w':Cu} (cells:obj h' wb=some (.cells [.pointer (some ⟨nb,0,none⟩),.pointer (some ⟨sb,0,none⟩),.bool w'.up,slV sp,iv w'.now,slV sg].toArray 82 (0,0)))
    (row:Own h' 0 sp 3 (pl'.flatMap peL)) (grs:Own h' 0 sg 9 (w'.grs.flatMap gtL)) (epes:pl'.map (·.2.2)=w'.pes) (e1:w'.ps=w.ps) (e2:w'.cs=w.cs) (e3:w'.srv=w.srv)
    (hcl:∀ (i:Nat) (x:Pm),pl'[i]?=some x→∃ x0:Pm,pl[i]?=some x0∧x.1=x0.1∧x.2.2.cl=x0.2.2.cl)
    (hrd:∀ (i:Nat) (x:Pm) (l:List UInt8) (br:Bool),pl'[i]?=some x→x.2.2.rd=some (l,br)→RdR h (prj (4+2*i) T) x.2.1 l br):WR h' T wb nb sb sp sg pl' w'∧Zaq T T h h' :=
  hR.zero hu (fun _ _=>rfl) (fun k hk=> .inl hk) cells row grs hR.tsp hR.tsg epes e1 e2 e3 (fun i x hx=>by
    obtain ⟨x0,h2,f1,f2⟩:=hcl i x hx
    rw [f1,f2]
    exact hR.cls i x0 h2) hrd
theorem WR.setPc (hR:WR h T wb nb sb sp sg pl w) {i:Nat} {x x':Pm} (hx:pl[i]?=some x) {b:Nat} (hb:sp.blk=some b) {j:Nat} (hj:j<3) {v:Value} (hv:peL x'=(peL x).set j v) (hone:Zv v=true) (ec:x'.1=x.1) (ecl:x'.2.2.cl=x.2.2.cl)
    (hrd:∀ (l:List UInt8) (br:Bool),x'.2.2.rd=some (l,br)→RdR h (prj (4+2*i) T) x'.2.1 l br) {o:Nat} (ho:o=i*3+j) {K:Zb→Prop}
    (hk:∀ h',WR h' T wb nb sb sp sg (pl.set i x') (w.setP i x'.2.2)→Zaq T T h h'→K h'):st h b o v K:=by
  refine XC Zlj hR.row hx hj hv hone hb ho fun h' ho' hu hz=>?_
  have hu2:Upd (fun k=>∃ t,T k=some (0,t)) h h':=hu.mono fun k _ hk=>⟨1,hR.tsp k hk⟩
  have q:∀ {k t},T k=some (0,t)→t≠1→h'[k]?=h[k]?:=fun {k t} hk ht=>hu.old k (hR.lt k (by rw [hk];exact fun e=>by cases e)) fun e=>by
    rw [hR.tsp k e] at hk
    injection hk with hk
    injection hk with _ hk
    exact ht hk.symm
  obtain ⟨h1,h2⟩:=hR.zero' hu2 hz (pl':=pl.set i x') (w':=w.setP i x'.2.2) ((q hR.twb (by decide)).trans hR.cells) ho' (hR.grs.congr fun b hb _ _=>q (hR.tsg b hb) (by decide)) (by rw [List.map_set,hR.pes];rfl) rfl rfl rfl
    (fun k y hy=>by
      rcases Xm hy with ⟨rfl,rfl,_⟩ | ⟨h1,h2⟩
      ·exact ⟨x,hx,ec,ecl⟩
      ·exact ⟨y,h2,rfl,rfl⟩)
    (fun k y l br hy hr=>by
      rcases Xm hy with ⟨rfl,rfl,_⟩ | ⟨h1,h2⟩
      ·exact hrd l br hr
      ·exact hR.rds k y l br h2 hr)
  exact hk h' h1 h2
theorem WR.setW (hR:WR h T wb nb sb sp sg pl w) {j:Nat} (hj:j<6) {v:Value} {w':Cu} (hv:[Value.pointer (some ⟨nb,0,none⟩),.pointer (some ⟨sb,0,none⟩),.bool w'.up,slV sp,iv w'.now,slV sg]=[Value.pointer (some ⟨nb,0,none⟩),.pointer (some ⟨sb,0,none⟩),.bool w.up,slV sp,iv w.now,slV sg].set j v) (hone:Zv v=true)
    (e1:w'.ps=w.ps) (e2:w'.cs=w.cs) (e3:w'.srv=w.srv) (e4:w'.pes=w.pes) (e5:w'.grs=w.grs) {K:Zb→Prop} (hk:∀ h',WR h' T wb nb sb sp sg pl w'→Zaq T T h h'→K h'):st h wb j v K:=by
  refine ZhD hR.cells hj hone fun h' hc hu hz=>?_
  have hu2:Upd (fun k=>∃ t,T k=some (0,t)) h h':=hu.mono fun k _ hk=>by subst hk;exact ⟨0,hR.twb⟩
  have q:∀ {k t},T k=some (0,t)→t≠0→h'[k]?=h[k]?:=fun {k t} hk ht=>hu.old k (hR.lt k (by rw [hk];exact fun e=>by cases e)) fun e=>by
    rw [e,hR.twb] at hk
    injection hk with hk
    injection hk with _ hk
    exact ht hk.symm
  rw [← hv] at hc
  obtain ⟨h1,h2⟩:=hR.zero' hu2 hz (pl':=pl) (w':=w') hc (hR.row.congr fun b hb _ _=>q (hR.tsp b hb) (by decide)) (by rw [e5];exact hR.grs.congr fun b hb _ _=>q (hR.tsg b hb) (by decide)) (by rw [e4];exact hR.pes) e1 e2 e3
    (fun k y hy=>⟨y,hy,rfl,rfl⟩) (fun k y l br hy hr=>hR.rds k y l br hy hr)
  exact hk h' h1 h2
end
def Cu.cut (w:Cu) (i:Nat):Cu:=match w.pes[i]? with
  | none=>w
  | some p=>if p.conn=0 then w else
    { w with cs:=(St.brS w.cs [p.conn]).2,srv:=w.srv.closed p.conn,pes:=w.pes.set i ⟨if p.cl.up then p.cl.lostS w.now else p.cl,0,none⟩}
def Cu.sends (w:Cu) (i:Nat):Cu:=match w.pes[i]? with
  | none=>w
  | some p=>if p.conn=0 then w else if p.cl.up=false then w else
    if p.cl.out=[] then w.setP i { p with cl:={ p.cl with out:=[]}} else
    if (St.wrS w.cs p.conn 0 p.cl.out).1=0 then { w with cs:=(St.wrS w.cs p.conn 0 p.cl.out).2,pes:=w.pes.set i { p with cl:={ p.cl with out:=[]}}} else
    Cu.cut { w with cs:=(St.wrS w.cs p.conn 0 p.cl.out).2,pes:=w.pes.set i { p with cl:={ p.cl with out:=[]}}} i
section
variable {h:Zb} {T:TT} {wb:Nat} {sp:Sl} {w:Cu}
theorem Zam {a b:Int} {A B:Prop} (h1:a≠b→A) (h2:a=b→B):Zw (a !=b) A B:=⟨fun e=>h1 (by simpa using e),fun e=>h2 (by simpa using e)⟩
theorem Zfq {w:Cu} {i:Nat} {p q:Pe} (hp:w.pes[i]?=some p):(w.setP i q).pes[i]?=some q:=List.getElem?_set_self (Xk hp)
theorem Zi7 {pl:List Pm} {i:Nat} {x y:Pm} (hx:pl[i]?=some x):(pl.set i y)[i]?=some y:=List.getElem?_set_self (Xk hx)
theorem WR.to {nb sb:Nat} {sg:Sl} {pl:List Pm} {w':Cu} (hR:WR h T wb nb sb sp sg pl w) (e:w=w'):Wld h T wb sp w':=by subst e;exact ⟨nb,sb,sg,pl,hR⟩
theorem WR.pe2 {nb sb:Nat} {sg:Sl} {pl:List Pm} (hR:WR h T wb nb sb sp sg pl w) {i:Nat} {p:Pe} (hp:w.pes[i]?=some p):∃ cb rb,pl[i]?=some (cb,rb,p):=by
  obtain ⟨⟨cb,rb,q⟩,hx,rfl⟩:=hR.pe hp
  exact ⟨cb,rb,hx⟩
theorem Zhw (hW:Wld h T wb sp w) {i:Nat} {p:Pe} (hp:w.pes[i]?=some p) (hcl:WOK p.cl∧NOK p.cl) {b:Nat} (hb:sp.blk=some b) {K:Zb→Prop}
    (hk:∀ h' T',Wld h' T' wb sp (w.cut i)→Zaq T T' h h'→K h'):Z4 (some ⟨wb,0,none⟩) (some ⟨b,i*3,none⟩) K h:=by
  obtain ⟨nb,sb,sg,pl,hR⟩:=hW
  obtain ⟨cb,rb,hx⟩:=hR.pe2 hp
  unfold Z4 Zdc
  unfold Cu.cut at hk
  rw [hp] at hk
  dsimp only at hk
  refine Zh (rI (hR.pc hx hb (j:=1) (by decide) rfl) (Za ?_))
  refine Zj (fun c=>?_) (fun c=>?_)
  ·rw [if_pos c] at hk
   exact hk h T ⟨nb,sb,sg,pl,hR⟩ (Zaq.refl _ _)
  ·rw [if_neg c] at hk
   refine Zh (hR.setPc hx (x':=(cb,rb,⟨p.cl,0,p.rd⟩)) hb (j:=1) (by decide) rfl YW rfl rfl (fun l br hr=>hR.rds i (cb,rb,p) l br hx hr) rfl fun h1 hR1 s1=>Zh ?_)
   have hx1:=Zi7 hx (y:=((cb,rb,⟨p.cl,0,p.rd⟩):Pm))
   refine hR1.setPc hx1 (x':=(cb,rb,⟨p.cl,0,none⟩)) hb (j:=2) (by decide) rfl ZhV rfl rfl (fun l br hr=>by cases hr) rfl fun h2 hR2 s2=>Zh ?_
   have s12:=s1.trans s2
   have hx2:=Zi7 hx1 (y:=((cb,rb,⟨p.cl,0,none⟩):Pm))
   refine rP (hR2.wc (j:=0) rfl) (Za1 fun h3 c3 e3 z3=>?_)
   have hR3:=hR2.ext e3
   refine St.ZkR hR3.net (St.Zjc c3) (fun k hk=>Za2 (hR2.no (by cases hk;exact Nat.le_refl _))) fun h4 hn4 s4=>?_
   obtain ⟨hR4,s4⟩:=hR3.netS s4 hn4
   refine Zh (rP (hR4.wc (j:=1) rfl) ?_)
   refine Tk.Zqb hR4.srv fun h5 hn5 s5=>?_
   obtain ⟨hR5,s5⟩:=hR4.srvS s5 hn5
   refine Zh (rP (hR5.pc hx2 hb (j:=0) (by decide) rfl) ?_)
   have hC:=hR5.cls i _ hx2
   refine ZcV hC ?_
   have s15:=(((s12.ext e3).trans s4).trans s5)
   refine ⟨fun cu=>?_,fun cu=>?_⟩
   ·refine Zh ?_
    refine Zh (rP (hR5.pc hx2 hb (j:=0) (by decide) rfl) (rI (hR5.wc (j:=4) rfl) ?_))
    refine Zs5 hC hcl.1 hcl.2 fun h6 T6 hn6 s6=>?_
    obtain ⟨hR6,s6⟩:=hR5.clS hx2 s6 hn6
    exact hk h6 _ (hR6.to (by simp only [Cu.setP,List.set_set,if_pos cu])) (s15.trans s6)
   ·have cu:p.cl.up=false:=cu
    exact hk h5 _ (hR5.to (by simp only [Cu.setP,List.set_set,cu,Bool.false_eq_true,if_false])) s15
theorem ZhL (hW:Wld h T wb sp w) {i:Nat} {p:Pe} (hp:w.pes[i]?=some p) (hcl:WOK p.cl∧NOK p.cl) (ho:p.cl.out.length≤1099511627776) (hn:∀ c j,c∈w.cs→j<2→(c.side j).way.length≤65536) {b:Nat} (hb:sp.blk=some b) {K:Zb→Prop}
    (hk:∀ h' T',Wld h' T' wb sp (w.sends i)→Zaq T T' h h'→K h'):Yp (some ⟨wb,0,none⟩) (some ⟨b,i*3,none⟩) K h:=by
  obtain ⟨nb,sb,sg,pl,hR⟩:=hW
  obtain ⟨cb,rb,hx⟩:=hR.pe2 hp
  unfold Yp Zb5
  unfold Cu.sends at hk
  rw [hp] at hk
  dsimp only at hk
  refine Zh (rI (hR.pc hx hb (j:=1) (by decide) rfl) ?_)
  refine Zj (fun c=>?_) (fun c=>?_)
  ·rw [if_pos c] at hk
   exact hk h T ⟨nb,sb,sg,pl,hR⟩ (Zaq.refl _ _)
  rw [if_neg c] at hk
  refine Zh (rP (hR.pc hx hb (j:=0) (by decide) rfl) ?_)
  have hC:=hR.cls i _ hx
  refine ZcV hC ?_
  refine ⟨fun cu=>?_,fun cu=>?_⟩
  ·rw [if_pos (by simpa using cu)] at hk
   exact hk h T ⟨nb,sb,sg,pl,hR⟩ (Zaq.refl _ _)
  rw [if_neg (by simp at cu;rw [cu];exact fun e=>by cases e)] at hk
  refine Zh (rP (hR.pc hx hb (j:=0) (by decide) rfl) ?_)
  refine Zs0 hC fun s h1 T1 o1 hC1 s1=>?_
  obtain ⟨hR1,s1⟩:=hR.clS hx s1 hC1
  have hx1:=Zi7 hx (y:=setC (cb,rb,p) { p.cl with out:=[]})
  have hl1:p.cl.out.length=s.len*1:=by
    have h9:=o1.len
    rw [List.length_map] at h9
    exact h9
  refine Zj (fun c2=>?_) (fun c2=>?_)
  ·have hne:p.cl.out≠[]:=fun e=>by rw [e] at hl1;simp at hl1;omega
   rw [if_neg hne] at hk
   refine Zh ?_
   refine Zh (rP (hR1.wc (j:=0) rfl) (rI (hR1.pc hx1 hb (j:=1) (by decide) rfl) ?_))
   refine St.ZkP hR1.net o1.row ho hn fun h2 T2 hn2 s2=>?_
   obtain ⟨hR2,s2⟩:=hR1.netS s2 hn2
   refine Zam (fun e=>?_) (fun e=>?_)
   ·have hw:Wld h2 _ wb sp _:=⟨nb,sb,sg,_,hR2⟩
    refine Zhw hw (i:=i) (Zfq hp) ⟨hcl.1.noup,hcl.2.noF rfl rfl rfl rfl rfl rfl⟩ hb fun h3 T3 hW3 s3=>hk h3 T3 ?_ ((s1.trans s2).trans s3)
    have e:¬ (St.wrS w.cs p.conn 0 p.cl.out).1=0:=e
    rw [if_neg e]
    exact hW3
   ·refine hk h2 _ (hR2.to ?_) (s1.trans s2)
    have e:(St.wrS w.cs p.conn 0 p.cl.out).1=0:=e
    rw [if_pos e]
    rfl
  ·have he:p.cl.out=[]:=List.eq_nil_of_length_eq_zero (by omega)
   rw [if_pos he] at hk
   exact hk h1 _ (hR1.to rfl) s1
end
end Go.Proofs.YtbppjmcinoffnaaGreat
namespace Go.Proofs.YtbppjmcinoffnaaGreat
open Go Go.Fw
open Nat renaming reduceAdd→Nqa,reduceLT→Nqb,reduceLeDiff→Nqc,reduceEqDiff→Nqd,reduceMul→Nqe
open Tk (Zt rI rB rS rP rM rL ZhD XC held1 ZaI wrS)
theorem ZAi {h:Zb} {b:Nat} {l:List Value} {t:TypeId} (hc:obj h b=some (.cells l.toArray t (0,0))) (hl:l.length=3) {x y z:Value} (hx:Zv x=true) (hy:Zv y=true) (hz:Zv z=true) {K:Zb→Prop}
    (hk:∀ h',obj h' b=some (.cells [x,y,z].toArray t (0,0))→Upd (· = b) h h'→sz h'=sz h→K h'):sts h b 0 [x,y,z] K:=by
  rw [ZiV (by rw [hc,Zg3,hl];rfl) (by simp only [List.all_cons,List.all_nil,hx,hy,hz];rfl)]
  refine hk _ ?_ (Zcc (Upd.refl _ _) (.inr rfl)) Zdi
  rw [ZiF,if_pos rfl,hc,Zeh]
  match l,hl with
  | [_,_,_],_=>rfl
theorem ZEm {h:Zb} {b:Nat} {l:List Value} {t:TypeId} (hc:obj h b=some (.cells l.toArray t (0,0))) (hl:l.length=3) {n e:Int} {f:Bool} {K:(Int × Bool × Int × Unit)→Zb→Prop} (hk:∀ h',Upd (· = b) h h'→sz h'=sz h→K (n,f,e,()) h') :
    sts h b 0 [.int .i64 n,.bool f,.int .i64 e] fun h'=>ldI h' b 0 .i64 fun t5=>ldB h' b (0+1) fun t6=>ldI h' b (0+2) .i64 fun t7=>K (t5,t6,t7,()) h' :=
  ZAi hc hl YW ZdX YW fun h' c u z=>rI (Zt c rfl) (rB (Zt c rfl) (rI (Zt c rfl) (hk h' u z)))
abbrev Op:=Int × Int × Int × Int × Int × Int × Int × Int × ByteArray × Int × Unit
def Op.rq (o:Op):Rq:=o.2.2.2.2
def Zj9 (T:TT) (h:Zb) (wb:Nat) (sp:Sl) (w':Cu) (r:Int × Bool × Int × Unit) (K:(Int × Bool × Int × Unit)→Zb→Prop):Prop:=∀ h' T',Wld h' T' wb sp w'→Zaq T T' h h'→K r h'
section
variable {h h':Zb} {T:TT} {wb:Nat} {sp:Sl} {w:Cu}
theorem Wld.no (hW:Wld h T wb sp w) {k:Nat} (hk:sz h≤k):T k=none:=by
  obtain ⟨nb,sb,sg,pl,hR⟩:=hW
  exact hR.no hk
theorem Wld.upd (hW:Wld h T wb sp w) {S:Nat→Prop} (u:Upd S h h') (hS:∀ k,S k→T k=none):Wld h' T wb sp w:=by
  obtain ⟨nb,sb,sg,pl,hR⟩:=hW
  exact ⟨nb,sb,sg,pl,hR.congr u.size fun k hk=>u.old k (hR.lt k hk) fun e=>hk (hS k e)⟩
theorem Zaq.also {T T':TT} {h h1 h2:Zb} (st:Zaq T T' h h1) {S:Nat→Prop} (u:Upd S h1 h2) (hS:∀ k,S k→sz h≤k):Zaq T T' h h2 :=
  ⟨Upd.then st.upd u fun k hk hs=>(by have h1:sz h≤k:=hS k hs;have h2:k<sz h:=hk;omega),st.new⟩
theorem Zf7 {c1 c2:List Value} {t1 t2:TypeId} {K:Nat→Nat→Zb→Prop} (hW:Wld h T wb sp w)
    (hk:∀ h3,Ext h h3→Wld h3 T wb sp w→obj h3 (sz h)=some (.cells c1.toArray t1 (0,0))→obj h3 (sz h+1)=some (.cells c2.toArray t2 (0,0))→sz h3=sz h+2→K (sz h) (sz h+1) h3) :
    newC h c1 t1 fun b h1=>newC h1 c2 t2 fun b2 h3=>K b b2 h3:=by
  refine Za1 fun h1 d1 e1 z1=>Za1 fun h3 d3 e3 z3=>?_
  have z1:sz h1=sz h+1:=z1
  have z3:sz h3=sz h1+1:=z3
  have e:h1.size=sz h+1:=z1
  rw [e] at d3 ⊢
  exact hk h3 (e1.trans e3) (hW.ext (e1.trans e3)) (Yh d1 e3) d3 (by omega)
theorem ZeE {h0:Zb} {T0:TT} {c2:List Value} {t2:TypeId} (hl:c2.length=3) (hc:obj h (sz h0+1)=some (.cells c2.toArray t2 (0,0))) (hW:Wld h T wb sp w) (st:Zaq T0 T h0 h) (hT:T (sz h0+1)=none) {n e:Int} {f:Bool} {K:(Int × Bool × Int × Unit)→Zb→Prop} (hk:Zj9 T0 h0 wb sp w (n,f,e,()) K) :
    sts h (sz h0+1) 0 [.int .i64 n,.bool f,.int .i64 e] fun h'=>ldI h' (sz h0+1) 0 .i64 fun t5=>ldB h' (sz h0+1) (0+1) fun t6=>ldI h' (sz h0+1) (0+2) .i64 fun t7=>K (t5,t6,t7,()) h' :=
  ZEm hc hl fun h' u _=>hk h' T (hW.upd u fun k hk=>by rw [hk];exact hT) (st.also u fun k hk=>by rw [hk];omega)
theorem ZrQ (hW:Wld h T wb sp w) {o:Op} {i:Nat} (hi:o.2.1=(i:Int)) {p:Pe} (hp:w.pes[i]?=some p) (hcl:WOK p.cl∧NOK p.cl) {K:(Int × Bool × Int × Unit)→Zb→Prop}
    (hk1:p.cl.up=false→Zj9 T h wb sp w (0,false,51,()) K) (hk2:p.cl.up=true→Zj9 T h wb sp (w.cut i) (0,false,0,()) K):Xy (some ⟨wb,0,none⟩) o K h:=by
  unfold Xy Zcy
  refine Zf7 hW fun h3 e3 hW3 d1 d2 z3=>Zh ?_
  obtain ⟨nb,sb,sg,pl,hR⟩:=hW3
  obtain ⟨cb,rb,hx⟩:=hR.pe2 hp
  refine rL (hR.wc (j:=3) rfl) (rI (Zt d1 rfl) (hR.idx hp hi fun b hb=>rP (hR.pc hx hb (j:=0) (by decide) rfl) ?_))
  have hC:=hR.cls i _ hx
  have n2:T (sz h+1)=none:=hW.no (by omega)
  refine ZcV hC ⟨fun cu=>?_,fun cu=>?_⟩
  ·exact ZeE rfl d2 ⟨nb,sb,sg,pl,hR⟩ ((Zaq.refl T h).ext e3) n2 (hk1 (by simpa using cu))
  ·refine Zhw ⟨nb,sb,sg,pl,hR⟩ hp hcl hb fun h4 T4 hW4 s4=>?_
   exact ZeE rfl (s4.keep d2 n2) hW4 (Zaq.pre e3 s4) (s4.none_ n2 (by omega)) (hk2 (by simpa using cu))
def Cu.askR (w:Cu) (i:Nat) (r:Rq):(Int × Bool × Int) × Cu:=match w.pes[i]? with
  | none=>((0,false,0),w)
  | some p=>((p.cl.askR w.now r).1,(w.setP i { p with cl:=(p.cl.askR w.now r).2 }).sends i)
theorem ZuA (hW:Wld h T wb sp w) {o:Op} {i:Nat} (hi:o.2.1=(i:Int)) {p:Pe} (hp:w.pes[i]?=some p) (hcl:WOK p.cl) (hcl':WOK (p.cl.askR w.now o.rq).2∧NOK (p.cl.askR w.now o.rq).2) (hnx:p.cl.next<4611686018427387904) (hl:p.cl.out.length≤1099511627776) (hl':(p.cl.askR w.now o.rq).2.out.length≤1099511627776)
    (hs:o.2.2.2.2.2.2.2.2.1.size<9223372036854775808) (hn:∀ c j,c∈w.cs→j<2→(c.side j).way.length≤65536) {K:(Int × Bool × Int × Unit)→Zb→Prop}
    (hk:Zj9 T h wb sp (w.askR i o.rq).2 ((w.askR i o.rq).1.1,(w.askR i o.rq).1.2.1,(w.askR i o.rq).1.2.2,()) K):XP (some ⟨wb,0,none⟩) o K h:=by
  unfold XP Zdd
  unfold Cu.askR at hk
  rw [hp] at hk
  dsimp only at hk
  refine Zf7 hW fun h3 e3 hW3 d1 d2 z3=>Zh ?_
  obtain ⟨nb,sb,sg,pl,hR⟩:=hW3
  obtain ⟨cb,rb,hx⟩:=hR.pe2 hp
  refine rL (hR.wc (j:=3) rfl) (rI (Zt d1 rfl) (hR.idx hp hi fun b hb=>Zh (rP (hR.pc hx hb (j:=0) (by decide) rfl) (rI (hR.wc (j:=4) rfl) ?_))))
  refine rI (Zt d1 rfl) (rI (Zt d1 rfl) (rI (Zt d1 rfl) (rI (Zt d1 rfl) (rS (Zt d1 rfl) (rI (Zt d1 rfl) ?_)))))
  have hC:=hR.cls i _ hx
  have n2:T (sz h+1)=none:=hW.no (by omega)
  refine ZuJ (r:=o.rq) hC hcl hnx hl hs fun h4 T4 hC4 s4=>Za ?_
  rw [YN]
  refine Za ?_
  obtain ⟨hR4,s4⟩:=hR.clS hx s4 hC4
  refine ZhL ⟨nb,sb,sg,_,hR4⟩ (i:=i) (Zfq hp) hcl' hl' hn hb fun h5 T5 hW5 s5=>?_
  have s45:=s4.trans s5
  exact ZeE rfl (s45.keep d2 n2) hW5 (Zaq.pre e3 s45) (s45.none_ n2 (by omega)) hk
end
def Cu.conn1 (w:Cu):Int × Cu :=
  if w.up=false then (0,w) else
  if (St.diS w.ps w.cs 1).1.2≠0 then (0,{ w with cs:=(St.diS w.ps w.cs 1).2 }) else
  if Tk.Zf6 w.srv (St.diS w.ps w.cs 1).1.1≠0 then (0,{ w with cs:=(St.brS (St.diS w.ps w.cs 1).2 [(St.diS w.ps w.cs 1).1.1]).2,srv:=w.srv.opened (St.diS w.ps w.cs 1).1.1 })
  else ((St.diS w.ps w.cs 1).1.1,{ w with cs:=(St.diS w.ps w.cs 1).2,srv:=w.srv.opened (St.diS w.ps w.cs 1).1.1 })
def Cu.dialR (w:Cu) (i:Nat):Int × Cu:=match w.pes[i]? with
  | none=>(0,w)
  | some p=>if p.cl.up=true then (52,w) else
    if p.cl.dialF w.now=false then (4,w.setP i { p with cl:=p.cl.atS w.now }) else
    if w.conn1.1=0 then (51,w.conn1.2.setP i ⟨(p.cl.atS w.now).refS w.now,0,p.rd⟩) else
    (0,(w.conn1.2.setP i ⟨(p.cl.atS w.now).upS w.now,w.conn1.1,some ([],false)⟩).sends i)
theorem Zgl (w:Cu):w.conn1.2.pes=w.pes∧w.conn1.2.now=w.now∧w.conn1.2.ps=w.ps∧w.conn1.2.grs=w.grs∧w.conn1.2.up=w.up:=by
  unfold Cu.conn1
  split
  ·exact ⟨rfl,rfl,rfl,rfl,rfl⟩
  ·split
   ·exact ⟨rfl,rfl,rfl,rfl,rfl⟩
   ·split<;>exact ⟨rfl,rfl,rfl,rfl,rfl⟩
theorem ZsD (w:Cu) (i:Nat) (p:Pe):(w.setP i p).conn1=(w.conn1.1,w.conn1.2.setP i p):=by
  unfold Cu.conn1 Cu.setP
  dsimp only
  split
  ·rfl
  ·split
   ·rfl
   ·split<;>rfl
section
variable {h h':Zb} {T:TT} {wb:Nat} {sp:Sl} {w:Cu}
theorem Zp4 (hW:Wld h T wb sp w) (hlen:w.cs.length≤1073741824) {K:Int→Zb→Prop} (hk:∀ h' T',Wld h' T' wb sp w.conn1.2→Zaq T T' h h'→K w.conn1.1 h'):Y7 (some ⟨wb,0,none⟩) K h:=by
  obtain ⟨nb,sb,sg,pl,hR⟩:=hW
  unfold Y7 ZaY
  unfold Cu.conn1 at hk
  refine Za (Zh (rB (hR.wc (j:=2) rfl) ⟨fun cu=>Za ?_,fun cu=>Zh (rP (hR.wc (j:=0) rfl) ?_)⟩))
  ·rw [if_pos (by simpa using cu)] at hk
   exact hk h T ⟨nb,sb,sg,pl,hR⟩ (Zaq.refl _ _)
  rw [if_neg (by simp at cu;rw [cu];exact fun e=>by cases e)] at hk
  refine St.ZjQ hR.net hlen fun h1 T1 hn1 s1=>Za (Za ?_)
  obtain ⟨hR1,s1⟩:=hR.netS s1 hn1
  refine Zam (fun e=>Za ?_) (fun e=>Zh (rP (hR1.wc (j:=1) rfl) ?_))
  ·rw [if_pos e] at hk
   exact hk h1 _ ⟨nb,sb,sg,pl,hR1⟩ s1
  rw [if_neg (by rw [e];exact fun h=>h rfl)] at hk
  refine Tk.Zs3 hR1.srv fun h2 hn2 s2=>?_
  obtain ⟨hR2,s2⟩:=hR1.srvS s2 hn2
  have s12:=s1.trans s2
  refine Zam (fun e2=>Zh (rP (hR2.wc (j:=0) rfl) (Za1 fun h3 c3 e3 z3=>?_))) (fun e2=>Za ?_)
  ·have hR3:=hR2.ext e3
   refine St.ZkR hR3.net (St.Zjc c3) (fun k hk=>Za2 (hR2.no (by cases hk;exact Nat.le_refl _))) fun h4 hn4 s4=>Za ?_
   obtain ⟨hR4,s4⟩:=hR3.netS s4 hn4
   have e2:Tk.Zf6 w.srv (St.diS w.ps w.cs 1).1.1≠0:=e2
   rw [if_pos e2] at hk
   exact hk h4 _ (hR4.to rfl) ((s12.ext e3).trans s4)
  ·have e2:Tk.Zf6 w.srv (St.diS w.ps w.cs 1).1.1=0:=e2
   rw [if_neg (by rw [e2];exact fun h=>h rfl)] at hk
   exact hk h2 _ (hR2.to rfl) s12
theorem Zsz (hW:Wld h T wb sp w) {o:Op} {i:Nat} (hi:o.2.1=(i:Int)) {p:Pe} (hp:w.pes[i]?=some p) (hcl:WOK p.cl∧NOK p.cl) (hA:WOK (p.cl.atS w.now)∧NOK (p.cl.atS w.now)) (hU:WOK ((p.cl.atS w.now).upS w.now)∧NOK ((p.cl.atS w.now).upS w.now)) (hl:(p.cl.atS w.now).out.length≤1099511627776) (hl':((p.cl.atS w.now).upS w.now).out.length≤1099511627776)
    (hrd:p.cl.up=false→p.rd=none) (hlen:w.cs.length≤1073741824) (hn:∀ c j,c∈w.conn1.2.cs→j<2→(c.side j).way.length≤65536) {K:(Int × Bool × Int × Unit)→Zb→Prop}
    (hk:Zj9 T h wb sp (w.dialR i).2 (0,false,(w.dialR i).1,()) K):Xz (some ⟨wb,0,none⟩) o K h:=by
  unfold Xz Zcz
  unfold Cu.dialR at hk
  rw [hp] at hk
  dsimp only at hk
  refine Zf7 hW fun h3 e3 hW3 d1 d2 z3=>Zh ?_
  have n2:T (sz h+1)=none:=hW.no (by omega)
  obtain ⟨nb,sb,sg,pl,hR⟩:=hW3
  obtain ⟨cb,rb,hx⟩:=hR.pe2 hp
  refine rL (hR.wc (j:=3) rfl) (rI (Zt d1 rfl) (hR.idx hp hi fun b hb=>rP (hR.pc hx hb (j:=0) (by decide) rfl) ?_))
  have hC:=hR.cls i _ hx
  refine ZcV hC ⟨fun cu=>?_,fun cu=>?_⟩
  ·have cu:p.cl.up=true:=cu
   rw [if_pos cu] at hk
   exact ZeE rfl d2 ⟨nb,sb,sg,pl,hR⟩ ((Zaq.refl T h).ext e3) n2 hk
  have cu:p.cl.up=false:=cu
  rw [if_neg (by rw [cu];exact fun e=>by cases e)] at hk
  refine Zh (rP (hR.pc hx hb (j:=0) (by decide) rfl) (rI (hR.wc (j:=4) rfl) ?_))
  refine ZjQ hC hcl.1 fun h4 T4 hC4 s4=>?_
  rw [YN]
  refine Za ?_
  obtain ⟨hR4,s4⟩:=hR.clS hx s4 hC4
  have hx4:=Zi7 hx (y:=setC (cb,rb,p) (p.cl.atS w.now))
  refine ⟨fun cm=>?_,fun cm=>?_⟩
  ·have cm:p.cl.dialF w.now=false:=by simpa using cm
   rw [if_pos cm] at hk
   exact ZeE rfl (s4.keep d2 n2) ⟨nb,sb,sg,_,hR4⟩ (Zaq.pre e3 s4) (s4.none_ n2 (by omega)) hk
  have cm:¬ p.cl.dialF w.now=false:=fun e=>by rw [show p.cl.dialF w.now=true by simpa using cm] at e;cases e
  rw [if_neg cm] at hk
  refine Zp4 ⟨nb,sb,sg,_,hR4⟩ hlen fun h5 T5 hW5 s5=>?_
  have s45:=s4.trans s5
  obtain ⟨nb5,sb5,sg5,pl5,hR5⟩:=hW5
  have e5:(w.setP i { p with cl:=p.cl.atS w.now }).conn1=(w.conn1.1,w.conn1.2.setP i { p with cl:=p.cl.atS w.now }):=ZsD w i _
  have e5':(w.setP i { (cb,rb,p).2.2 with cl:=(cb,rb,p).2.2.cl.atS w.now }).conn1=(w.conn1.1,w.conn1.2.setP i { p with cl:=p.cl.atS w.now }):=e5
  rw [e5'] at hR5 ⊢
  dsimp only at hR5 ⊢
  have enow:w.conn1.2.now=w.now:=(Zgl w).2.1
  have hp5:(w.conn1.2.setP i { p with cl:=p.cl.atS w.now }).pes[i]?=some { p with cl:=p.cl.atS w.now }:=Zfq (by rw [(Zgl w).1];exact hp)
  obtain ⟨cb5,rb5,hx5⟩:=hR5.pe2 hp5
  refine hR5.setPc hx5 (x':=(cb5,rb5,⟨p.cl.atS w.now,w.conn1.1,p.rd⟩)) hb (j:=1) (by decide) rfl YW rfl rfl (fun l br hr=>hR5.rds i (cb5,rb5,{ p with cl:=p.cl.atS w.now }) l br hx5 hr) rfl fun h6 hR6 s6=>?_
  have hx6:=Zi7 hx5 (y:=((cb5,rb5,⟨p.cl.atS w.now,w.conn1.1,p.rd⟩):Pm))
  have s46:=s45.trans s6
  refine rI (hR6.pc hx6 hb (j:=1) (by decide) rfl) (Zj (fun c0=>?_) (fun c0=>?_))
  ·have c0:w.conn1.1=0:=c0
   rw [if_pos c0] at hk
   refine Zh (rP (hR6.pc hx6 hb (j:=0) (by decide) rfl) (rI (hR6.wc (j:=4) rfl) ?_))
   have hC6:=hR6.cls i _ hx6
   refine Znc hC6 hA.1 hA.2 fun h7 T7 hC7 s7=>?_
   obtain ⟨hR7,s7⟩:=hR6.clS hx6 s7 hC7
   have s47:=s46.trans s7
   refine ZeE rfl (s47.keep d2 n2) (hR7.to (w':=w.conn1.2.setP i ⟨(p.cl.atS w.now).refS w.now,0,p.rd⟩) ?_) (Zaq.pre e3 s47) (s47.none_ n2 (by omega)) hk
   simp only [Cu.setP,List.set_set,c0,enow]
  ·have c0:¬ w.conn1.1=0:=c0
   rw [if_neg c0] at hk
   unfold ZbV Zey
   refine Za1 fun h7 c7 e7 z7=>?_
   obtain ⟨T7,hR7,s7,r7⟩:=hR6.rdN hx6 (hrd cu) e7 (Nat.le_refl _) c7
   have hx7:=Zi7 hx6 (y:=((cb5,h6.size,⟨p.cl.atS w.now,w.conn1.1,p.rd⟩):Pm))
   refine hR7.setPc hx7 (x':=(cb5,h6.size,⟨p.cl.atS w.now,w.conn1.1,some ([],false)⟩)) hb (j:=2) (by decide) rfl ZhV rfl rfl (fun l br hr=>by cases hr;exact r7) rfl fun h8 hR8 s8=>?_
   have hx8:=Zi7 hx7 (y:=((cb5,h6.size,⟨p.cl.atS w.now,w.conn1.1,some ([],false)⟩):Pm))
   have s48:=(s46.trans s7).trans s8
   refine Zh (rP (hR8.pc hx8 hb (j:=0) (by decide) rfl) (rI (hR8.wc (j:=4) rfl) ?_))
   have hC8:=hR8.cls i _ hx8
   refine Zxn hC8 hA.1 hA.2 hl fun h9 T9 hC9 s9=>?_
   obtain ⟨hR9,s9⟩:=hR8.clS hx8 s9 hC9
   have s49:=s48.trans s9
   have hW9:Wld h9 _ wb sp (w.conn1.2.setP i ⟨(p.cl.atS w.now).upS w.now,w.conn1.1,some ([],false)⟩):=hR9.to (by simp only [Cu.setP,List.set_set,enow])
   refine ZhL hW9 (i:=i) (Zfq (by rw [(Zgl w).1];exact hp)) hU hl' hn hb fun h10 T10 hW10 s10=>?_
   have s410:=s49.trans s10
   exact ZeE rfl (s410.keep d2 n2) hW10 (Zaq.pre e3 s410) (s410.none_ n2 (by omega)) hk
end
def Pe.atP (at_:Int) (p:Pe):Pe:={ p with cl:=p.cl.atS at_ }
def Cu.tickK (w:Cu) (k:Nat):Cu:={ w with pes:=w.pes.mapIdx fun j p=>if j<k then p.atP w.now else p }
theorem Zrp {w:Cu} {k i:Nat} {p:Pe} (hp:w.pes[i]?=some p):(w.tickK k).pes[i]?=some (if i<k then p.atP w.now else p):=by
  unfold Cu.tickK
  rw [List.getElem?_mapIdx,hp]
  rfl
theorem Zpm (w:Cu):w.tickK 0=w:=by
  unfold Cu.tickK
  have:(w.pes.mapIdx fun j p=>if j<0 then p.atP w.now else p)=w.pes:=by
    apply List.ext_getElem?
    intro j
    rw [List.getElem?_mapIdx]
    cases w.pes[j]? with
    | none=>rfl
    | some p=>rfl
  rw [this]
theorem Zpn {w:Cu} {k:Nat} {p:Pe} (hp:w.pes[k]?=some p):(w.tickK k).setP k (p.atP w.now)=w.tickK (k+1):=by
  unfold Cu.tickK Cu.setP
  dsimp only
  congr 1
  apply List.ext_getElem?
  intro j
  rw [List.getElem?_set,List.length_mapIdx,List.getElem?_mapIdx,List.getElem?_mapIdx]
  by_cases e:k=j
  ·subst e
   rw [if_pos rfl,if_pos (Xk hp),hp]
   simp
  ·rw [if_neg e]
   cases w.pes[j]? with
   | none=>rfl
   | some q =>
     have:(j<k+1)=(j<k):=propext ⟨fun h=>by omega,fun h=>by omega⟩
     simp only [Option.map_some,this]
def Cu.tickA (w:Cu):Cu:=w.tickK w.pes.length
def Cu.tickE (w:Cu) (at_:Int):Int:=if at_<0 then 2 else if at_>1152921504606846976 then 2 else if at_<w.now then 7 else 0
def Cu.cutK (w:Cu):Nat→Cu
  | 0=>w
  | k+1=>(w.cutK k).cut k
def Cu.startR (w:Cu):Int × Cu:=if w.up=true then (52,w) else (0,{ w with up:=true,srv:=if Tk.Zbm w.srv.last w.now=0 then w.srv.restarted w.now else w.srv,ps:=St.liP w.ps [1]})
def Cu.stopB (w:Cu):Cu:={ w with up:=false,ps:=St.spP w.ps [1]}
theorem Zup (w:Cu) (i:Nat):(w.cut i).pes.length=w.pes.length∧(∀ j,j≠i→(w.cut i).pes[j]?=w.pes[j]?)∧(w.cut i).now=w.now∧(w.cut i).ps=w.ps∧(w.cut i).grs=w.grs∧(w.cut i).up=w.up:=by
  unfold Cu.cut
  split
  ·exact ⟨rfl,fun _ _=>rfl,rfl,rfl,rfl,rfl⟩
  ·split
   ·exact ⟨rfl,fun _ _=>rfl,rfl,rfl,rfl,rfl⟩
   ·exact ⟨List.length_set,fun j hj=>List.getElem?_set_ne (fun e=>hj e.symm),rfl,rfl,rfl,rfl⟩
theorem ZmV (w:Cu):∀ k,(w.cutK k).pes.length=w.pes.length∧(∀ j,k≤j→(w.cutK k).pes[j]?=w.pes[j]?)∧(w.cutK k).now=w.now∧(w.cutK k).ps=w.ps∧(w.cutK k).grs=w.grs∧(w.cutK k).up=w.up
  | 0=>⟨rfl,fun _ _=>rfl,rfl,rfl,rfl,rfl⟩
  | k+1=>by
    obtain ⟨a,b,c,d,e,f⟩:=ZmV w k
    obtain ⟨a',b',c',d',e',f'⟩:=Zup (w.cutK k) k
    exact ⟨a'.trans a,fun j hj=>(b' j (by omega)).trans (b j (by omega)),c'.trans c,d'.trans d,e'.trans e,f'.trans f⟩
section
variable {h h':Zb} {T:TT} {wb:Nat} {sp:Sl} {w:Cu}
theorem Zro (hW:Wld h T wb sp w) (hlen:w.pes.length≤1099511627776) {o:Op} (hcl:∀ (i:Nat) (p:Pe),w.pes[i]?=some p→WOK p.cl) {K:(Int × Bool × Int × Unit)→Zb→Prop}
    (hk1:w.tickE o.2.2.1≠0→Zj9 T h wb sp w (0,false,w.tickE o.2.2.1,()) K) (hk2:w.tickE o.2.2.1=0→Zj9 T h wb sp (Cu.tickA { w with now:=o.2.2.1 }) (0,false,0,()) K):Xw (some ⟨wb,0,none⟩) o K h:=by
  unfold Xw Zcw
  unfold Cu.tickE at hk1 hk2
  refine Zf7 hW fun h3 e3 hW3 d1 d2 z3=>?_
  have n2:T (sz h+1)=none:=hW.no (by omega)
  have st0:=(Zaq.refl T h).ext e3
  refine rI (Zt d1 rfl) (Zj (fun c=>?_) (fun c=>rI (Zt d1 rfl) ?_))
  ·rw [if_pos c] at hk1
   exact ZeE rfl d2 hW3 st0 n2 (hk1 (by decide))
  rw [if_neg c] at hk1 hk2
  rw [YN]
  refine Zj (fun c=>?_) (fun c=>rI (Zt d1 rfl) (Zh ?_))
  ·rw [if_pos c] at hk1
   exact ZeE rfl d2 hW3 st0 n2 (hk1 (by decide))
  rw [if_neg c] at hk1 hk2
  obtain ⟨nb,sb,sg,pl,hR⟩:=hW3
  refine rI (hR.wc (j:=4) rfl) ?_
  rw [YN]
  refine Zj (fun c=>?_) (fun c=>rI (Zt d1 rfl) (Zh ?_))
  ·rw [if_pos c] at hk1
   exact ZeE rfl d2 ⟨nb,sb,sg,pl,hR⟩ st0 n2 (hk1 (by decide))
  rw [if_neg c] at hk2
  have hk2:=hk2 rfl
  refine hR.setW (j:=4) (by decide) (w':={ w with now:=o.2.2.1 }) rfl YW rfl rfl rfl rfl rfl fun h4 hR4 s4=>Zh (rL (hR4.wc (j:=3) rfl) ?_)
  have hsl:=hR4.len
  refine Zds (I:=fun s hh=>∃ (k:Nat) (T':TT),s=((k:Int),())∧k≤w.pes.length∧Wld hh T' wb sp (Cu.tickK { w with now:=o.2.2.1 } k)∧Zaq T T' h3 hh) (fun s _=>w.pes.length - s.1.toNat) ⟨0,T,rfl,Nat.zero_le _,by rw [Zpm];exact ⟨nb,sb,sg,pl,hR4⟩,s4⟩ ?_
  rintro _ h5 ⟨k,T5,rfl,hkl,hW5,s5⟩ Q hQ
  dsimp only
  refine Zj (fun c=>?_) (fun c=>?_)
  ·have hkl2:k<w.pes.length:=by
     have:w.pes.length=sp.len:=hsl.symm
     omega
   have hp:w.pes[k]?=some w.pes[k]:=List.getElem?_eq_getElem hkl2
   generalize w.pes[k]=p at hp
   have hp5:=Zrp (w:={ w with now:=o.2.2.1 }) (k:=k) (i:=k) hp
   rw [if_neg (Nat.lt_irrefl k)] at hp5
   obtain ⟨nb5,sb5,sg5,pl5,hR5⟩:=hW5
   obtain ⟨cb,rb,hx⟩:=hR5.pe2 hp5
   refine hR5.idx hp5 rfl fun b hb=>rP (hR5.pc hx hb (j:=0) (by decide) rfl) (rI (hR5.pc hx hb (j:=1) (by decide) rfl) (rP (hR5.pc hx hb (j:=2) (by decide) rfl) (Za1 fun h6 c6 e6 z6=>?_)))
   refine ZAi c6 rfl ZhV YW ZhV fun h7 c7 u7 z7=>Zh ?_
   refine rP (Zt c7 rfl) ?_
   have n6:T5 (sz h5)=none:=hR5.no (Nat.le_refl _)
   have hR7:WR h7 T5 wb nb5 sb5 sp sg5 pl5 _:=(hR5.ext e6).congr (by rw [z7];exact Nat.le_refl _) fun j hj=>u7.old j (Nat.lt_of_lt_of_le (hR5.lt j hj) e6.size) fun e=>hj (by rw [e];exact n6)
   refine rI (hR7.wc (j:=4) rfl) ?_
   have hC:=hR7.cls k _ hx
   refine Zm7 hC (hcl k p hp) fun h8 T8 hC8 s8=>?_
   obtain ⟨hR8,s8⟩:=hR7.clS hx s8 hC8
   rw [wrS hkl2 (by omega)]
   refine hQ _ _ ⟨k+1,_,rfl,hkl2,hR8.to (Zpn hp),s5.trans (Zaq.trans ?_ s8)⟩ (by dsimp only;omega)
   exact (((Zaq.refl T5 h5).ext e6).also u7 fun j hj=>by rw [hj];exact Nat.le_refl _)
  ·have e:k=w.pes.length:=by
     have:w.pes.length=sp.len:=hsl.symm
     omega
   subst e
   exact ZeE rfl (s5.keep d2 n2) hW5 (Zaq.pre e3 s5) (s5.none_ n2 (by omega)) hk2
theorem Zpr (hW:Wld h T wb sp w) (hok:w.srv.OK) {o:Op} {K:(Int × Bool × Int × Unit)→Zb→Prop}
    (hk:Zj9 T h wb sp w.startR.2 (0,false,w.startR.1,()) K):Xf (some ⟨wb,0,none⟩) o K h:=by
  unfold Xf Zb3
  unfold Cu.startR at hk
  refine Zf7 hW fun h3 e3 hW3 d1 d2 z3=>Zh ?_
  have n2:T (sz h+1)=none:=hW.no (by omega)
  have st0:=(Zaq.refl T h).ext e3
  obtain ⟨nb,sb,sg,pl,hR⟩:=hW3
  refine rB (hR.wc (j:=2) rfl) ⟨fun c=>?_,fun c=>Zh ?_⟩
  ·rw [if_pos c] at hk
   exact ZeE rfl d2 ⟨nb,sb,sg,pl,hR⟩ st0 n2 hk
  rw [if_neg (by rw [c];exact fun e=>by cases e)] at hk
  refine hR.setW (j:=2) (by decide) (w':={ w with up:=true }) rfl ZdX rfl rfl rfl rfl rfl fun h4 hR4 s4=>Zh ?_
  refine Zh (rP (hR4.wc (j:=1) rfl) (rI (hR4.wc (j:=4) rfl) ?_))
  have rest:∀ (h5:Zb) (T5:TT) (s:Tk.Srv),WR h5 T5 wb nb sb sp sg pl { w with up:=true,srv:=s }→Zaq T T5 h3 h5→Zj9 T h wb sp { w with up:=true,srv:=s,ps:=St.liP w.ps [1]} (0,false,0,()) K→Zd (some ⟨wb,0,none⟩) fun b o=>ldP h5 b o fun t=>newC h5 [Value.int .i64 1] 3 fun b h6=>YP t ⟨some ⟨b,0,none⟩,1,1⟩ (fun t13 h14=>sts h14 (sz h+1) 0 [Value.int .i64 0,Value.bool false,Value.int .i64 0] fun h15 =>
      ldI h15 (sz h+1) 0 .i64 fun t16=>ldB h15 (sz h+1) (0+1) fun t17=>ldI h15 (sz h+1) (0+2) .i64 fun t18=>K (t16,t17,t18,()) h15) h6:=by
    intro h5 T5 s hR5 s5 hk
    refine Zh (rP (hR5.wc (j:=0) rfl) (Za1 fun h6 c6 e6 z6=>?_))
    have hR6:=hR5.ext e6
    refine St.ZjP hR6.net (St.Zjc c6) (fun k hk=>Za2 (hR5.no (by cases hk;exact Nat.le_refl _))) fun h7 hn7 s7=>?_
    obtain ⟨hR7,s7⟩:=hR6.netS s7 hn7
    have s57:=(s5.ext e6).trans s7
    exact ZeE rfl (s57.keep d2 n2) (hR7.to rfl) (Zaq.pre e3 s57) (s57.none_ n2 (by omega)) hk
  refine Tk.Zna hR4.srv hok (fun e=>?_) (fun e h5 T5 hn5 s5=>?_)
  ·refine rest h4 T w.srv hR4 s4 ?_
   have e:¬ Tk.Zbm w.srv.last w.now=0:=e
   rw [if_neg e] at hk
   exact hk
  ·obtain ⟨hR5,s5⟩:=hR4.srvS s5 hn5
   refine rest h5 _ _ hR5 (s4.trans s5) ?_
   have e:Tk.Zbm w.srv.last w.now=0:=e
   rw [if_pos e] at hk
   exact hk
theorem Zrw (hW:Wld h T wb sp w) (hlen:w.pes.length≤1099511627776) {o:Op} (hcl:∀ (i:Nat) (p:Pe),w.pes[i]?=some p→WOK p.cl∧NOK p.cl) {K:(Int × Bool × Int × Unit)→Zb→Prop}
    (hk1:w.up=false→Zj9 T h wb sp w (0,false,51,()) K) (hk2:w.up=true→Zj9 T h wb sp (w.stopB.cutK w.pes.length) (0,false,0,()) K):Xx (some ⟨wb,0,none⟩) o K h:=by
  unfold Xx Zcx
  refine Zf7 hW fun h3 e3 hW3 d1 d2 z3=>Zh ?_
  have n2:T (sz h+1)=none:=hW.no (by omega)
  have st0:=(Zaq.refl T h).ext e3
  obtain ⟨nb,sb,sg,pl,hR⟩:=hW3
  refine rB (hR.wc (j:=2) rfl) ⟨fun c=>?_,fun c=>Zh ?_⟩
  ·exact ZeE rfl d2 ⟨nb,sb,sg,pl,hR⟩ st0 n2 (hk1 (by simpa using c))
  have hk2:=hk2 (by simpa using c)
  refine hR.setW (j:=2) (by decide) (w':={ w with up:=false }) rfl ZdX rfl rfl rfl rfl rfl fun h4 hR4 s4=>Zh (rP (hR4.wc (j:=0) rfl) (Za1 fun h5 c5 e5 z5=>?_))
  have hR5:=hR4.ext e5
  refine St.ZsZ hR5.net (St.Zjc c5) (fun k hk=>Za2 (hR4.no (by cases hk;exact Nat.le_refl _))) fun h6 hn6 s6=>?_
  obtain ⟨hR6,s6⟩:=hR5.netS s6 hn6
  have s46:=(s4.ext e5).trans s6
  refine Zh (rL (hR6.wc (j:=3) rfl) ?_)
  have hsl:=hR6.len
  refine Zds (I:=fun s hh=>∃ (k:Nat) (T':TT),s=((k:Int),())∧k≤w.pes.length∧Wld hh T' wb sp (w.stopB.cutK k)∧Zaq T T' h3 hh) (fun s _=>w.pes.length - s.1.toNat) ⟨0,_,rfl,Nat.zero_le _,hR6.to rfl,s46⟩ ?_
  rintro _ h7 ⟨k,T7,rfl,hkl,hW7,s7⟩ Q hQ
  dsimp only
  refine Zj (fun c=>?_) (fun c=>?_)
  ·have hkl2:k<w.pes.length:=by
     have:w.pes.length=sp.len:=hsl.symm
     omega
   have hp:w.pes[k]?=some w.pes[k]:=List.getElem?_eq_getElem hkl2
   generalize w.pes[k]=p at hp
   have hp7:(w.stopB.cutK k).pes[k]?=some p:=((ZmV w.stopB k).2.1 k (Nat.le_refl _)).trans hp
   refine Za (Zh ?_)
   obtain ⟨nb7,sb7,sg7,pl7,hR7⟩:=hW7
   refine rL (hR7.wc (j:=3) rfl) (hR7.idx hp7 rfl fun b hb=>?_)
   refine Zhw ⟨nb7,sb7,sg7,pl7,hR7⟩ hp7 (hcl k p hp) hb fun h8 T8 hW8 s8=>?_
   rw [wrS hkl2 (by omega)]
   exact hQ _ _ ⟨k+1,T8,rfl,hkl2,hW8,s7.trans s8⟩ (by dsimp only;omega)
  ·have e:k=w.pes.length:=by
     have:w.pes.length=sp.len:=hsl.symm
     omega
   subst e
   exact ZeE rfl (s7.keep d2 n2) hW7 (Zaq.pre e3 s7) (s7.none_ n2 (by omega)) hk2
end
def anL (a:An):List Value:=[iv a.1,.int .u8 a.2.1,iv a.2.2.1,iv a.2.2.2.1,iv a.2.2.2.2.1]
def Cu.noted (w:Cu) (i:Nat) (r:Rq) (a:An):Cu:=if a.2.1=1 then (if r.2.1=5 then w else { w with grs:=w.grs++[(w.now,(i:Int),r.1,r)]}) else w
def Cu.said (w:Cu) (conn:Int) (a:An):Bool × Cu:=if Zcj (Ztf a)=0 then (decide ((St.wrS w.cs conn 1 (Zez (Ztf a))).1=0),{ w with cs:=(St.wrS w.cs conn 1 (Zez (Ztf a))).2 }) else (false,w)
def Cu.serveR (w:Cu) (i:Nat) (conn:Int) (lb:List UInt8):Bool × Cu :=
  if (ZdH lb).2.1≠0 then (false,w) else
  if (Tk.doV w.srv w.now conn (ZdH lb).1).1.2≠0 then (false,{ w with srv:=(Tk.doV w.srv w.now conn (ZdH lb).1).2 }) else
  (Cu.noted { w with srv:=(Tk.doV w.srv w.now conn (ZdH lb).1).2 } i (ZdH lb).1 (Tk.doV w.srv w.now conn (ZdH lb).1).1.1).said conn (Tk.doV w.srv w.now conn (ZdH lb).1).1.1
theorem ZrX (w:Cu) (i:Nat) (r:Rq) (a:An):(w.noted i r a).pes=w.pes∧(w.noted i r a).cs=w.cs:=by
  unfold Cu.noted
  split
  ·split<;>exact ⟨rfl,rfl⟩
  ·exact ⟨rfl,rfl⟩
theorem Zrq (lb:List UInt8):(ZdH lb).1.2.2.2.2.1.size<9223372036854775808:=by
  unfold ZdH
  split
  ·show (zR.2.2.2.2.1:ByteArray).size<_
   decide
  ·show (ZjX lb).size<_
   unfold ZjX
   split
   ·have h1:tl lb≤255:=by
      unfold tl
      split
      ·have:=(lb.getD 33 0).toNat_lt;omega
      ·omega
    show (((lb.drop 34).take (tl lb)).toArray).size<_
    rw [List.size_toArray,List.length_take]
    omega
   ·decide
theorem Zsp (p:List UInt8):(Zez p).length≤4100:=by
  unfold Zez
  split
  ·simp
  ·rename_i h
   simp only [Zea,List.length_append,List.length_cons,List.length_nil]
   omega
theorem Ztd {h:Zb} {b:Nat} {l:List Value} {t:TypeId} (hc:obj h b=some (.cells l.toArray t (0,0))) {vs:List Value} (hl:l.length=vs.length) (hv:vs.all Zv=true) (hp:ZeK 0 vs l=vs) {K:Zb→Prop}
    (hk:∀ h',obj h' b=some (.cells vs.toArray t (0,0))→Upd (· = b) h h'→sz h'=sz h→K h'):sts h b 0 vs K:=by
  rw [ZiV (by rw [hc,Zg3,hl];simp) hv]
  refine hk _ ?_ (Zcc (Upd.refl _ _) (.inr rfl)) Zdi
  rw [ZiF,if_pos rfl,hc,Zeh,hp]
section
variable {h h':Zb} {T:TT} {wb nb sb:Nat} {sp sg:Sl} {pl:List Pm} {w:Cu}
theorem ZAj {b n:Nat} {l:List Value} {t:TypeId} {f:Nat × Nat} (c:obj h b=some (.cells l.toArray t f)) (hl:l.length=n):Row h ⟨some ⟨b,0,none⟩,1,1⟩ n l :=
  ⟨by rw [Nat.one_mul];exact hl,Nat.le_refl _,(show 1<9223372036854775808 by decide),.inr ⟨b,0,rfl,ZaD c fun i v hi=>by simpa using hi⟩⟩
theorem WR.grow (hR:WR h T wb nb sb sp sg pl w) {s':Sl} {g:Gt} (ho:Own h' 0 s' 9 ((w.grs++[g]).flatMap gtL)) (hu:Upd (fun k=>sg.blk=some k) h h') (hb:s'.blk=sg.blk∨s'.blk=some h.size) {K:Zb→Prop}
    (hk:∀ h2 T',WR h2 T' wb nb sb sp s' pl { w with grs:=w.grs++[g]}→Zaq T T' h h2→(∀ k,T k=none→k<sz h→T' k=none∧obj h2 k=obj h k)→K h2):st h' wb 5 (slV s') K:=by
  have hw:¬ sg.blk=some wb:=fun e=>by
    have:=hR.tsg wb e
    rw [hR.twb] at this
    cases this
  have c1:=XM hR.cells hu hw
  refine ZhD c1 (by decide:5<6) ZgR fun h2 c2 u2 z2=>?_
  have lo:∀ k,s'.blk=some k→T k=some (0,2)∨h.size≤k:=fun k hk=>by
    rcases hb with e | e
    ·rw [e] at hk;exact .inl (hR.tsg k hk)
    ·rw [e] at hk;cases hk;exact .inr (Nat.le_refl _)
  have hu2:Upd (fun k=>∃ t,T k=some (0,t)) h h2:=Upd.then (hu.mono fun k _ hk=>⟨2,hR.tsg k hk⟩) u2 fun k _ hk=>⟨0,by rw [hk];exact hR.twb⟩
  have old:∀ k,k<sz h→(∀ t,T k≠some (0,t))→h2[k]?=h[k]?:=fun k hk hn=>hu2.old k hk fun ⟨t,e⟩=>hn t e
  have z2':sz h2=sz h':=z2
  have hT:∀ k,T k≠none→(if s'.blk=some k then some (0,2) else T k)=T k:=fun k hk=>by
    split
    ·rename_i e
     rcases lo k e with h1 | h1
     ·exact h1.symm
     ·exact (hk (hR.no h1)).elim
    ·rfl
  have hsp:∀ b,sp.blk=some b→h2[b]?=h[b]?:=fun b hb'=>by
    have tb:=hR.tsp b hb'
    have hl:b<sz h:=hR.lt b (by rw [tb];exact fun e=>by cases e)
    have n1:b≠wb:=fun e=>by rw [e,hR.twb] at tb;cases tb
    have n2:¬ sg.blk=some b:=fun e=>by rw [hR.tsg b e] at tb;cases tb
    exact (u2.old b (Nat.lt_of_lt_of_le hl hu.size) n1).trans (hu.old b hl n2)
  obtain ⟨h3,h4⟩:=hR.zero hu2 (T':=fun k=>if s'.blk=some k then some (0,2) else T k) hT (fun k hk=>by
      by_cases e:s'.blk=some k
      ·rcases lo k e with h1 | h1
       ·exact .inl (by rw [h1];exact fun e=>by cases e)
       ·exact .inr ⟨h1,(by rw [z2'];exact (ho.lt e).2),2,if_pos e⟩
      ·rw [if_neg e] at hk;exact .inl hk) (sg':=s') (pl':=pl) (w':={ w with grs:=w.grs++[g]}) c2 (hR.row.congr fun b hb' _ _=>hsp b hb')
    (ho.congr fun b hb' _ _=>u2.old b (ho.lt hb').2 fun e=>by
      rcases lo b hb' with h1 | h1
      ·rw [e,hR.twb] at h1;cases h1
      ·have:=hR.lt wb (by rw [hR.twb];exact fun e=>by cases e)
       rw [e] at h1
       have h1:sz h≤wb:=h1
       omega) (fun k hk=>(hT k (by rw [hR.tsp k hk];exact fun e=>by cases e)).trans (hR.tsp k hk)) (fun k hk=>if_pos hk) hR.pes rfl rfl rfl (fun i x hx=>hR.cls i x hx) fun i x l br hx hr=>hR.rds i x l br hx hr
  refine hk h2 _ h3 h4 fun k hk hl=>⟨?_,old k hl fun t e=>by rw [hk] at e;cases e⟩
  show (if s'.blk=some k then some (0,2) else T k)=none
  rw [if_neg fun e=>?_]
  ·exact hk
  ·rcases lo k e with h1 | h1
   ·rw [hk] at h1;cases h1
   ·have h1:sz h≤k:=h1
    omega
theorem Zpu (hW:Wld h T wb sp w) (hok:w.srv.OK) (hg:w.grs.length≤1099511627776) (hn:∀ c j,c∈w.cs→j<2→(c.side j).way.length≤65536) {i:Nat} {p:Pe} (hp:w.pes[i]?=some p) {b:Nat} (hb:sp.blk=some b) {s:Sl} {lb:List UInt8} (hs:Bytes h s lb) {K:Bool→Zb→Prop}
    (hk:∀ h' T',Wld h' T' wb sp (w.serveR i p.conn lb).2→Zaq T T' h h'→K (w.serveR i p.conn lb).1 h'):XW (some ⟨wb,0,none⟩) (some ⟨b,i*3,none⟩) (i:Int) s K h:=by
  unfold XW Zb4
  unfold Cu.serveR at hk
  have hts:=Zrq lb
  refine Zix hs fun h3 e3=>?_
  generalize ZdH lb=rr at hk hts ⊢
  obtain ⟨r,er,ex⟩:=rr
  dsimp only at hk hts ⊢
  refine Za1 fun h4 c4 e4 z4=>?_
  refine Ztd (vs:=rqC r) c4 rfl (by simp only [List.all_cons,List.all_nil,YW,Zf8];rfl) rfl fun h5 c5 u5 z5=>Za (Za ?_)
  have hlo:sz h≤sz h3:=e3.size
  have hz4:sz h4=sz h3+1:=z4
  have e5:Ext h h5:=(e3.trans e4).then u5 fun k hk=>by rw [hk];exact hlo
  have hW5:=hW.ext e5
  have nb5:T (sz h3)=none:=hW.no hlo
  refine Zam (fun he=>?_) (fun he=>?_)
  ·rw [if_pos he] at hk
   exact hk h5 T hW5 ((Zaq.refl T h).ext e5)
  rw [if_neg (by rw [he];exact fun h=>h rfl)] at hk
  obtain ⟨nb,sb,sg,pl,hR⟩:=hW5
  have e55:=hR
  obtain ⟨cb,rb,hx⟩:=hR.pe2 hp
  generalize hd:Tk.doV w.srv w.now p.conn r=d at hk
  obtain ⟨⟨a,ea⟩,S'⟩:=d
  dsimp only at hk
  refine ZoW (J:=fun s hh=>∃ T' b',s=(ea,some ⟨b',0,none⟩,())∧(∃ t,obj hh b'=some (.cells (anL a).toArray t (0,0)))∧T' b'=none∧WR hh T' wb nb sb sp sg pl { w with srv:=S' }∧Zaq T T' h5 hh) ?_ ?_
  ·rintro _ h36 ⟨T6,b',rfl,⟨ta,ca⟩,nb6,hR6,s6⟩
   dsimp only
   have s56:=Zaq.pre e5 s6
   refine Zam (fun he=>?_) (fun he=>?_)
   ·rw [if_pos he] at hk
    exact hk h36 T6 ⟨nb,sb,sg,pl,hR6⟩ s56
   rw [if_neg (by rw [he];exact fun h=>h rfl)] at hk
   have c36:=s6.keep c5 nb5
   refine ZoW (J:=fun _ hh=>∃ T' sg',(∃ t,obj hh b'=some (.cells (anL a).toArray t (0,0)))∧WR hh T' wb nb sb sp sg' pl (Cu.noted { w with srv:=S' } i r a)∧Zaq T T' h hh) ?_ ?_
   ·rintro _ h63 ⟨T7,sg',⟨ta,ca⟩,hR7,s7⟩
    refine Zh (rI (Zt ca rfl) (rI (Zt ca rfl) (rI (Zt ca rfl) (rI (Zt ca rfl) (rI (Zt ca rfl) ?_)))))
    refine Zop (r:=a) fun o8 h8 w8 e8=>Za ?_
    refine ZkQ (Own.row w8) fun o9 h9 w9 e9 n9=>Za ?_
    have hR9:=hR7.ext (e8.trans e9)
    unfold Cu.said at hk
    refine Zj (fun c=>?_) (fun c=>?_)
    ·rw [if_pos c] at hk
     have hx9:pl[i]?=some (cb,rb,p):=hx
     refine Zh ?_
     refine Zh (rP (hR9.wc (j:=0) rfl) (rI (hR9.pc hx hb (j:=1) (by decide) rfl) ?_))
     refine St.ZkP hR9.net (Own.row w9) (Nat.le_trans (Zsp _) (by decide)) (by rw [(ZrX _ _ _ _).2];exact hn) fun h10 T10 hn10 s10=>?_
     obtain ⟨hR10,s10⟩:=hR9.netS s10 hn10
     rw [YN]
     exact hk h10 _ (hR10.to rfl) ((s7.ext (e8.trans e9)).trans s10)
    ·rw [if_neg c] at hk
     exact hk h9 T7 ⟨nb,sb,sg',pl,hR9⟩ (s7.ext (e8.trans e9))
   ·intro Q hQ
    refine Zh (rI (Zt ca rfl) (Zj (fun c1=>?_) (fun c1=>?_)))
    ·refine rI (Zt c36 rfl) (Zam (fun c2=>?_) (fun c2=>?_))
     ·refine Zh ?_
      refine Zh (rL (hR6.wc (j:=5) rfl) (rI (hR6.wc (j:=4) rfl) (rI (Zt c36 rfl) ?_)))
      refine rI (Zt c36 rfl) (rI (Zt c36 rfl) (rI (Zt c36 rfl) (rI (Zt c36 rfl) (rS (Zt c36 rfl) (rI (Zt c36 rfl) ?_)))))
      refine Za1 fun h56 c56 e56 z56=>?_
      have hR56:=hR6.ext e56
      have c36':=Yh c36 e56
      have n36:T6 (sz h3)=none:=s6.none_ nb5 (ZS c5)
      simp only [ZhX,Zbd,ZcR]
      refine ⟨⟨Zt c36' rfl,Zt c36' rfl,Zt c36' rfl,Zt c36' rfl,Zt c36' rfl,Zt c36' rfl,trivial⟩,⟨Zt c36' rfl,trivial⟩,⟨hR56.wc (j:=4) rfl,trivial⟩,⟨hR56.wc (j:=5) rfl,trivial⟩,?_⟩
      have hgl:(w.grs.flatMap gtL).length=sg.len*9:=hR6.grs.len
      rw [Z7 ZgX] at hgl
      refine (ZAj (n:=9) (l:=gtL (w.now,(i:Int),r.1,r)) c56 rfl).rd ?_
      refine Own.app hR56.grs rfl (by simp only [gtL,List.all_cons,List.all_nil,YW,Zf8];rfl) rfl (by omega) (by omega) (Nat.zero_le _) fun s' h58 ho58 hl58 u58 hb58=>?_
      have nsg:∀ {k},T6 k=none→¬ sg.blk=some k:=fun {k} hk e=>by rw [hR6.tsg k e] at hk;cases hk
      have c58:=XM c36' u58 (nsg n36)
      have w58:ZL 4 (obj h58 wb)=some (iv w.now):=Zt (XM hR56.cells u58 fun e=>by
        have:=hR56.tsg wb e
        rw [hR56.twb] at this
        cases this) rfl
      refine ⟨⟨Zt c58 rfl,Zt c58 rfl,Zt c58 rfl,Zt c58 rfl,Zt c58 rfl,Zt c58 rfl,trivial⟩,⟨Zt c58 rfl,trivial⟩,⟨w58,trivial⟩,?_⟩
      refine Zh (hR56.grow (g:=(w.now,(i:Int),r.1,r)) (by rw [List.flatMap_append,List.flatMap_cons,List.flatMap_nil,List.append_nil];exact ho58) u58 hb58 fun h61 T61 hR61 s61 k61=>?_)
      have hca:=Yh ca e56
      refine hQ () h61 ⟨T61,s',⟨ta,(k61 b' nb6 (ZS hca)).2.trans hca⟩,?_,s56.trans (Zaq.pre e56 s61)⟩
      have:Cu.noted { w with srv:=S' } i r a={ w with srv:=S',grs:=w.grs++[(w.now,(i:Int),r.1,r)]}:=by unfold Cu.noted;rw [if_pos c1,if_neg c2]
      rw [this];exact hR61
     ·refine hQ () h36 ⟨T6,sg,⟨ta,ca⟩,?_,s56⟩
      have:Cu.noted { w with srv:=S' } i r a={ w with srv:=S' }:=by unfold Cu.noted;rw [if_pos c1,if_pos c2]
      rw [this];exact hR6
    ·refine hQ () h36 ⟨T6,sg,⟨ta,ca⟩,?_,s56⟩
     have:Cu.noted { w with srv:=S' } i r a={ w with srv:=S' }:=by unfold Cu.noted;rw [if_neg c1]
     rw [this];exact hR6
  ·intro Q hQ
   refine Zh ?_
   refine Zh ?_
   refine Zh (rP (hR.wc (j:=1) rfl) (rI (hR.wc (j:=4) rfl) (rI (hR.pc hx hb (j:=1) (by decide) rfl) ?_)))
   refine rI (Zt c5 rfl) (rI (Zt c5 rfl) (rI (Zt c5 rfl) (rI (Zt c5 rfl) (rS (Zt c5 rfl) (rI (Zt c5 rfl) ?_)))))
   rw [ZlE]
   refine ⟨?_,?_⟩
   ·refine Tk.Zs9 (r:=r) hR.srv hok hts fun h23 T23 hn23 s23=>Za1 fun h25 c25 e25 z25=>?_
    have hd1:Tk.doV w.srv w.now (cb,rb,p).2.2.conn r=((a,ea),S'):=hd
    rw [hd1] at hn23 ⊢
    obtain ⟨hR23,s23⟩:=hR.srvS s23 hn23
    refine Ztd (vs:=anL a) c25 rfl (by simp only [anL,List.all_cons,List.all_nil,YW];rfl) rfl fun h26 c26 u26 z26=>Za ?_
    have n23:cmb 2 T T23 (sz h23)=none:=hR23.no (Nat.le_refl _)
    refine hQ _ _ ⟨_,sz h23,rfl,⟨_,c26⟩,n23,?_,(s23.ext e25).also u26 fun k hk=>?_⟩
    ·exact (hR23.ext e25).congr (by rw [z26];exact Nat.le_refl _) fun j hj=>u26.old j (Nat.lt_of_lt_of_le (hR23.lt j hj) e25.size) fun e=>hj (by rw [e];exact n23)
    ·rw [hk];exact s23.upd.size
   ·refine Za1 fun h29 c29 e29 z29=>?_
    have hR29:=hR.ext e29
    have n29:T (sz h5)=none:=hR.no (Nat.le_refl _)
    have c5':=Yh c5 e29
    simp only [ZhX,Zbd,ZcR]
    refine ⟨⟨Zt c5' rfl,Zt c5' rfl,Zt c5' rfl,Zt c5' rfl,Zt c5' rfl,Zt c5' rfl,trivial⟩,⟨hR29.pc hx hb (j:=1) (by decide) rfl,trivial⟩,⟨hR29.wc (j:=4) rfl,trivial⟩,⟨hR29.wc (j:=1) rfl,trivial⟩,?_⟩
    refine Tk.Zs9 (r:=r) hR29.srv hok hts fun h32 T32 hn32 s32=>?_
    have hd1:Tk.doV w.srv w.now (cb,rb,p).2.2.conn r=((a,ea),S'):=hd
    rw [hd1] at hn32 ⊢
    obtain ⟨hR32,s32⟩:=hR29.srvS s32 hn32
    have c32:=s32.keep c29 n29
    have n32:=s32.none_ n29 (ZS c29)
    refine Ztd (vs:=anL a) c32 rfl (by simp only [anL,List.all_cons,List.all_nil,YW];rfl) rfl fun h33 c33 u33 z33=>Za ?_
    refine hQ _ _ ⟨_,sz h5,rfl,⟨_,c33⟩,n32,?_,(Zaq.pre e29 s32).also u33 fun k hk=>?_⟩
    ·exact hR32.congr (by rw [z33];exact Nat.le_refl _) fun j hj=>u33.old j (hR32.lt j hj) fun e=>hj (by rw [e];exact n32)
    ·rw [hk];exact Nat.le_refl _
end
end Go.Proofs.YtbppjmcinoffnaaGreat
