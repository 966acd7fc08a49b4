/- The law JsonBack. -/
import Derived.ChangeArms
import Derived.JoinedCond
import Derived.LaidLaws
import Derived.Test.YtpjbjdheeemdiaaGreatDoorPa12
set_option linter.unusedVariables false
set_option linter.unusedSimpArgs false
namespace Go.Js
open Go
abbrev ZwT:Rt:=fun _ _ _ _=>true
theorem Zd5:∀ (l:JL) (d n dp n' dp':Nat),Y4 whB d l n dp=(true,n',dp')→Y4 ZwT d l n dp=(true,n',dp')
  | .nil,d,n,dp,n',dp',h=>h
  | .cons k t ns sub rest,d,n,dp,n',dp',h=>by
    simp only [Y4] at h ⊢
    split at h
    ·cases h
    rename_i h1
    split at h
    ·cases h
    rw [if_neg h1,if_neg (by simp)]
    split at h
    ·rename_i h2
     rw [if_pos h2]
     exact Zd5 rest _ _ _ _ _ h
    rename_i h2
    rw [if_neg h2]
    split at h
    ·rename_i h3
     rw [if_pos h3]
     exact Zd5 rest _ _ _ _ _ h
    rename_i h3
    rw [if_neg h3]
    split at h
    ·rename_i h4
     have e:Y4 whB (d+1) sub (n+1) (max dp (d+1))=(true,(Y4 whB (d+1) sub (n+1) (max dp (d+1))).2.1,(Y4 whB (d+1) sub (n+1) (max dp (d+1))).2.2):=by rw [← h4]
     rw [Zd5 sub _ _ _ _ _ e,if_pos rfl]
     exact Zd5 rest _ _ _ _ _ h
    ·rename_i h4
     rw [h] at h4
     exact absurd rfl h4
end Go.Js
namespace Go.Proofs.YtpjbjdheeemdiaaGreatDoor
open Go Go.Fw Go.Js
theorem Zka {v:JV} (h:Zbc v=true):Zgq v≤64:=by
  unfold Zbc Zbg at h
  simp only [Bool.and_eq_true,decide_eq_true_eq] at h
  have e:Y4 whB 0 (.cons v.k v.t v.ns v.sub .nil) 0 0=(true,(Y4 whB 0 (.cons v.k v.t v.ns v.sub .nil) 0 0).2.1,(Y4 whB 0 (.cons v.k v.t v.ns v.sub .nil) 0 0).2.2):=by rw [← h.1]
  have:=Zd5 _ _ _ _ _ _ e
  unfold Zgq Zbg
  split
  ·rw [this];exact h.2
  ·omega
theorem ZiT {h:Zc} {z:VT5} {v:JV} {S:Nat→Prop} {K:Bool→HP} (hv:Zap h S z v) (hS:∀ j,S j→j<sz h) (hfit:Zj6 v) (hlen:(YR v).length<800000000) (hbig:65536<Zd3 v) (ht:ZaM h) (hh:9≤sz h)
    (hk:∀ h',Ext h h'→K true h'):Yl z K h:=by
  unfold Yl Xx
  have hr:Zbc v=false:=by
    cases e:Zbc v with
    | false=>rfl
    | true=>have:=(Zas.1 e).2;omega
  refine Zbe fun h1 c1 e1 z1=>?_
  have c1':obj h1 h.size=some (.cells (Y9 z).toArray 33 (0,0)):=c1
  have ld:∀ {x:Zc} {K:Int→ByteArray→Sl→Sl→Prop},Ext h1 x→K z.1 z.2.1 z.2.2.1 z.2.2.2.1→ldI x h.size 0 .u8 fun a=>ldS x h.size (0+1) fun b=>ldL x h.size (0+2) fun c=>ldL x h.size (0+3) fun d=>K a b c d:=fun e hK=>by
    have c:=Yx c1' e
    exact rI (Zi c rfl) (rS (Zi c rfl) (rL (s:=z.2.2.1) (Zi c rfl) (rL (s:=z.2.2.2.1) (Zi c rfl) hK)))
  have vx:∀ {x:Zc},Ext h x→Zap x S z v:=fun e=>hv.ext hS e
  have sx:∀ {x:Zc},Ext h x→∀ j,S j→j<sz x:=fun e j hj=>by have:=hS j hj;have:=e.szz;omega
  have hx:∀ {x:Zc},Ext h x→9≤sz x:=fun e=>by have:=e.szz;omega
  refine ld (Ext.refl _) (Zdq (z:=z) (vx e1) (sx e1) hfit hlen (ht.ext e1) (hx e1) fun s e h2 e2 hp _ _=>Za ?_)
  obtain ⟨rfl,rfl⟩:=hp hr
  have e02:=e1.trans e2
  refine Zi7 (ht.ext e02) (hx e02) fun h3 e3=>Zj rfl ?_
  have e03:=e02.trans e3
  refine ld (e2.trans e3) (Zb6 (z:=z) (vx e03) (sx e03) hfit (ht.ext e03) (hx e03) fun h4 e4=>?_)
  have e04:=e03.trans e4
  rw [hr]
  refine Zj rfl (Zj rfl (ld ((e2.trans e3).trans e4) (ZeU (z:=z) (vx e04) (sx e04) hfit (ht.ext e04) (hx e04) fun h5 e5=>?_)))
  have e05:=e04.trans e5
  have hd:Zgq v=0:=by unfold Zgq;rw [if_neg fun h=>by omega]
  rw [hd]
  refine Zj rfl (ld (((e2.trans e3).trans e4).trans e5) (ld (((e2.trans e3).trans e4).trans e5) (ZeS (a:=z) (b:=z) (vx e05) (vx e05) (sx e05) (sx e05) fun h6 e6=>Zf ?_)))
  rw [decide_eq_false (show ¬ Zd3 v≤65536 by omega)]
  exact hk h6 (e05.trans e6)
theorem Zkl (hps:∀ (l:BL) (v:JV),XJ l = .ok v→Zj6 v∧(YR v).length<800000000) {h:Zc} {z:VT5} {v:JV} {S:Nat→Prop} {s:ByteArray} {K:Bool→HP} (hv:Zap h S z v) (hS:∀ j,S j→j<sz h) (hfit:Zj6 v) (hlen:(YR v).length<800000000) (ht:ZaM h) (hh:9≤sz h)
    (hk:∀ h',Ext h h'→K true h'):YG z s K h:=by
  unfold YG Xi
  refine Zbe fun h1 c1 e1 z1=>?_
  have c1':obj h1 h.size=some (.cells (Y9 z).toArray 33 (0,0)):=c1
  have ld:∀ {x:Zc} {K:Int→ByteArray→Sl→Sl→Prop},Ext h1 x→K z.1 z.2.1 z.2.2.1 z.2.2.2.1→ldI x h.size 0 .u8 fun a=>ldS x h.size (0+1) fun b=>ldL x h.size (0+2) fun c=>ldL x h.size (0+3) fun d=>K a b c d:=fun e hK=>by
    have c:=Yx c1' e
    exact rI (Zi c rfl) (rS (Zi c rfl) (rL (s:=z.2.2.1) (Zi c rfl) (rL (s:=z.2.2.2.1) (Zi c rfl) hK)))
  have vx:∀ {x:Zc},Ext h x→Zap x S z v:=fun e=>hv.ext hS e
  have sx:∀ {x:Zc},Ext h x→∀ j,S j→j<sz x:=fun e j hj=>by have:=hS j hj;have:=e.szz;omega
  have hx:∀ {x:Zc},Ext h x→9≤sz x:=fun e=>by have:=e.szz;omega
  have tail:∀ {x:Zc},Ext h x→Z8 s (fun t49 t50 t51 h52 =>
       newC h52 [.int .u8 0,.string (ByteArray.mk #[]),.slice none 0 0,.slice none 0 0] 33 fun b53 h54 =>
       sts h54 b53 0 [.int .u8 t49.1,.string t49.2.1,.slice t49.2.2.1.ptr t49.2.2.1.len t49.2.2.1.cap,.slice t49.2.2.2.1.ptr t49.2.2.2.1.len t49.2.2.2.1.cap] fun h55 =>
       Zx t50 fun e56 =>
       Zx t51 fun x =>
       ZC (e56 !=0) (
       ldI h55 b53 0 .u8 fun t57=>ldS h55 b53 (0+1) fun t58=>ldL h55 b53 (0+2) fun t59=>ldL h55 b53 (0+3) fun t60 =>
       Yj (t57,t58,t59,t60,()) (0,ByteArray.mk #[],⟨none,0,0⟩,⟨none,0,0⟩,()) (fun t61 h62 =>
       ZN t61 fun t63 =>
       K t63 h62) h55) (
       ldI h55 b53 0 .u8 fun t64=>ldS h55 b53 (0+1) fun t65=>ldL h55 b53 (0+2) fun t66=>ldL h55 b53 (0+3) fun t67 =>
       YP (t64,t65,t66,t67,()) (fun t68 t69 h70 =>
       Zx t69 fun f71 =>
       ZC (f71 !=0) (
       ZC (f71 ==5) (
       ldI h70 b53 0 .u8 fun t72=>ldS h70 b53 (0+1) fun t73=>ldL h70 b53 (0+2) fun t74=>ldL h70 b53 (0+3) fun t75 =>
       Yt (t72,t73,t74,t75,()) (fun t76 h77 =>
       ZN t76 fun t78 =>
       K t78 h77) h70) (
       K false h70)) (
       Z8 t68 (fun t79 t80 t81 h82 =>
       newC h82 [.int .u8 0,.string (ByteArray.mk #[]),.slice none 0 0,.slice none 0 0] 33 fun b83 h84 =>
       sts h84 b83 0 [.int .u8 t79.1,.string t79.2.1,.slice t79.2.2.1.ptr t79.2.2.1.len t79.2.2.1.cap,.slice t79.2.2.2.1.ptr t79.2.2.2.1.len t79.2.2.2.1.cap] fun h85 =>
       Zx t80 fun g =>
       Zx t81 fun x86 =>
       ZC (g ==0) (
       ldI h85 b53 0 .u8 fun t87=>ldS h85 b53 (0+1) fun t88=>ldL h85 b53 (0+2) fun t89=>ldL h85 b53 (0+3) fun t90 =>
       ldI h85 b83 0 .u8 fun t91=>ldS h85 b83 (0+1) fun t92=>ldL h85 b83 (0+2) fun t93=>ldL h85 b83 (0+3) fun t94 =>
       Xk (t87,t88,t89,t90,()) (t91,t92,t93,t94,()) (fun t95 h96 =>
       ZC t95 (
       ldI h96 b53 0 .u8 fun t97=>ldS h96 b53 (0+1) fun t98=>ldL h96 b53 (0+2) fun t99=>ldL h96 b53 (0+3) fun t100 =>
       YQ (t97,t98,t99,t100,()) (fun t101 h102 =>
       ZN (decide (t101≤64)) fun t103 =>
       K t103 h102) h96) (
       K false h96)) h85) (
       K false h85)) h70)) h55)) x:=fun {x} ex=>by
    refine ZcV (ht.ext ex) (hx ex) fun y e n b h2 e2 c2 b2 b2' g2=>Za (Za ?_)
    have e02:=ex.trans e2
    have s2:=e02.szz
    have ld2:∀ {x:Zc} {K:Int→ByteArray→Sl→Sl→Prop},Ext h2 x→K y.1 y.2.1 y.2.2.1 y.2.2.2.1→ldI x b 0 .u8 fun a=>ldS x b (0+1) fun c=>ldL x b (0+2) fun d=>ldL x b (0+3) fun f=>K a c d f:=fun e hK=>by
      have c:=Yx c2 e
      exact rI (Zi c rfl) (rS (Zi c rfl) (rL (s:=y.2.2.1) (Zi c rfl) (rL (s:=y.2.2.2.1) (Zi c rfl) hK)))
    cases hp:XJ s.data.toList with
    | err e' k =>
      rw [hp] at g2
      obtain ⟨g2,rfl,rfl⟩:=g2
      have:=ZkI hp
      refine Zj (by simp;omega) (ld2 (Ext.refl _) (ZgF (a:=y) (b:=(0,ByteArray.mk #[],⟨none,0,0⟩,⟨none,0,0⟩,())) (w:=zJ) (S':=fun _=>False) g2 (Zap.plain _ _ 0 []) (fun j hj=>hj.2) (fun j hj=>hj.elim) fun h3 e3=>Zf ?_))
      rw [decide_eq_true rfl]
      exact hk h3 (e02.trans e3)
    | ok w =>
      rw [hp] at g2
      obtain ⟨g2,rfl,rfl⟩:=g2
      obtain ⟨wf,wl⟩:=hps _ _ hp
      have wr:=Zas.2 (Zaa hp)
      have wc:=(Zaa hp).2
      have wS:∀ {x':Zc},Ext h2 x'→∀ j,(sz x≤j∧j<sz h2)→j<sz x':=fun e j hj=>by have:=e.szz;omega
      refine Zn rfl (ld2 (Ext.refl _) (Zdq (z:=y) g2 (fun j hj=>hj.2) wf wl (ht.ext e02) (hx e02) fun t f h3 e3 hp1 hp2 hp3=>Za ?_))
      have e03:=e02.trans e3
      by_cases hl:(YR w).length≤65536
      ·obtain ⟨rfl,rfl⟩:=hp3 wr hl
       refine Zn rfl (ZcV (ht.ext e03) (hx e03) fun y4 e4 n4 b4 h4 x4 c4 b4' b4'' g4=>Za (Za ?_))
       have hb:XJ (Zd (YR w)).data.toList = .ok w:=ZeK (Zaa hp).1 hl
       rw [hb] at g4
       obtain ⟨g4,rfl,rfl⟩:=g4
       have e24:=e3.trans x4
       have e04:=e03.trans x4
       refine Zj rfl (ld2 e24 (rI (Zi c4 rfl) (rS (Zi c4 rfl) (rL (s:=y4.2.2.1) (Zi c4 rfl) (rL (s:=y4.2.2.2.1) (Zi c4 rfl) ?_)))))
       refine ZeS (a:=y) (b:=y4) (g2.ext (fun j hj=>hj.2) e24) g4 (wS e24) (fun j hj=>hj.2) fun h5 e5=>?_
       rw [decide_eq_true wc,decide_eq_true rfl]
       have e25:=e24.trans e5
       have e05:=e04.trans e5
       refine Zj rfl (ld2 e25 (ZeU (z:=y) (g2.ext (fun j hj=>hj.2) e25) (wS e25) wf (ht.ext e05) (hx e05) fun h6 e6=>Zf ?_))
       have:=Zka wr
       rw [decide_eq_true (by omega)]
       exact hk h6 (e05.trans e6)
      ·obtain ⟨rfl,rfl⟩:=hp2 wr (by omega)
       refine Zj rfl (Zj rfl (ld2 e3 (Zb6 (z:=y) (g2.ext (fun j hj=>hj.2) e3) (wS e3) wf (ht.ext e03) (hx e03) fun h4 e4=>Zf ?_)))
       rw [wr]
       exact hk h4 (e03.trans e4)
  refine Zi7 (ht.ext e1) (hx e1) fun h2 e2=>Zn rfl ?_
  have e02:=e1.trans e2
  refine ld e2 (Zl0 (z:=z) (vx e02) (sx e02) fun h3 e3=>?_)
  have e03:=e02.trans e3
  have e13:=e2.trans e3
  refine Zq (fun hg=>?_) fun hg=>?_
  ·exact ld e13 (ZiT (z:=z) (vx e03) (sx e03) hfit hlen hg (ht.ext e03) (hx e03) fun h4 e4=>Zf (hk h4 (e03.trans e4)))
  refine ld e13 (Zdq (z:=z) (vx e03) (sx e03) hfit hlen (ht.ext e03) (hx e03) fun t f h4 e4 hp1 hp2 hp3=>Za ?_)
  have e04:=e03.trans e4
  have e14:=e13.trans e4
  refine ZE (fun _ h'=>Ext h h') (fun _ x ex=>tail ex) ?_
  refine Xu (fun hf=>?_) fun hf=>e04
  cases hr:Zbc v with
  | false=>obtain ⟨rfl,rfl⟩:=hp1 hr;cases hf
  | true =>
    by_cases hl:(YR v).length≤65536
    ·obtain ⟨rfl,rfl⟩:=hp3 hr hl
     refine ZcV (ht.ext e04) (hx e04) fun y e n b h5 e5 c5 b5 b5' g5=>Za (Za ?_)
     have hb:XJ (Zd (YR v)).data.toList = .ok v:=ZeK (Zas.1 hr).1 hl
     rw [hb] at g5
     obtain ⟨g5,rfl,rfl⟩:=g5
     have e05:=e04.trans e5
     have e15:=e14.trans e5
     refine Zn rfl (Zn rfl (ld e15 (rI (Zi c5 rfl) (rS (Zi c5 rfl) (rL (s:=y.2.2.1) (Zi c5 rfl) (rL (s:=y.2.2.2.1) (Zi c5 rfl) ?_))))))
     refine ZeS (a:=z) (b:=y) (vx e05) g5 (sx e05) (fun j hj=>hj.2) fun h6 e6=>?_
     rw [decide_eq_true (Zas.1 hr).2,decide_eq_true rfl]
     have e06:=e05.trans e6
     refine Zn rfl (ld (e15.trans e6) (Zb6 (z:=z) (vx e06) (sx e06) hfit (ht.ext e06) (hx e06) fun h7 e7=>?_))
     rw [hr]
     exact Zn rfl (e06.trans e7)
    ·obtain ⟨rfl,rfl⟩:=hp2 hr (by omega)
     cases hf
end Go.Proofs.YtpjbjdheeemdiaaGreatDoor
namespace Go.Js
open Go
def nsW:List BL→Nat
  | []=>0
  | n::l=>6*n.length+3+nsW l
def pw:JL→Nat
  | .nil=>0
  | .cons _ t ns sub rest=>9+6*t.length+nsW ns+pw sub+pw rest
def wV (v:JV):Nat:=9+6*v.t.length+nsW v.ns+pw v.sub
theorem ZjJ (v:JV):∀ l:JL,pw (l.snoc v)=pw l+wV v
  | .nil=>by simp [JL.snoc,pw,wV]
  | .cons _ _ _ _ r=>by simp only [JL.snoc,pw,ZjJ v r];omega
theorem Znk (a:BL):∀ l:List BL,nsW (l++[a])=nsW l+(6*a.length+3)
  | []=>by simp [nsW]
  | n::l=>by simp only [List.cons_append,nsW,Znk a l];omega
theorem ZjS {n:BL}:∀ {l:List BL},n∈l→n.length≤nsW l
  | [],h=>by cases h
  | m::l,h=>by
    rcases List.mem_cons.1 h with rfl | h
    ·simp only [nsW];omega
    ·have:=ZjS h;simp only [nsW];omega
theorem Zir (c:UInt8):(ZbI c).length≤6:=by
  unfold ZbI
  split
  ·simp
  split
  ·simp
  split
  ·simp
  split
  ·simp
  split
  ·simp
  split
  ·simp
  split<;>simp
theorem Zk3:∀ t:BL,(t.flatMap ZbI).length≤6*t.length
  | []=>by simp
  | c::t=>by
    have:=Zk3 t
    have:=Zir c
    simp only [List.flatMap_cons,List.length_append,List.length_cons]
    omega
theorem ZfV (t:BL):(ZbM t).length≤6*t.length+2:=by
  have:=Zk3 t
  unfold ZbM
  simp only [List.length_cons,List.length_append,List.length_nil]
  omega
theorem Zm5 (k:Nat) (t body:BL):(prV k t body).length≤5+6*t.length+body.length:=by
  have:=ZfV t
  unfold prV
  split
  ·simp;omega
  split
  ·simp;omega
  split
  ·simp;omega
  split
  ·omega
  split
  ·omega
  split
  ·simp;omega
  ·simp;omega
theorem Zr7 (ob:Bool) (ns:List BL):(nmB ob ns).length+nsW ns.tail≤3+nsW ns:=by
  cases ns with
  | nil =>
    cases ob
    ·simp [nmB,nsW]
    ·have:=ZfV []
     simp only [nmB,List.headD,List.tail,nsW,↓reduceIte,List.length_append,List.length_cons,List.length_nil] at this ⊢
     omega
  | cons n ns =>
    cases ob
    ·simp only [nmB,List.tail,nsW];simp;omega
    ·have:=ZfV n
     simp only [nmB,List.headD,List.tail,nsW,↓reduceIte,List.length_append,List.length_cons,List.length_nil] at this ⊢
     omega
theorem ZeI:∀ (l:JL) (ob first:Bool) (ns:List BL),(ZM ob first ns l).length≤pw l+nsW ns
  | .nil,_,_,_=>by simp [ZM]
  | .cons k t ns' sub rest,ob,first,ns=>by
    have h1:=ZeI sub (decide (k=7)) true ns'
    have h2:=ZeI rest ob false ns.tail
    have h3:=Zm5 k t (ZM (decide (k=7)) true ns' sub)
    have h4:=Zr7 ob ns
    have h5:(ZiD first).length≤1:=by cases first<;>simp [ZiD]
    simp only [ZM,pw,List.length_append]
    omega
theorem Zhc (v:JV):(YR v).length≤wV v:=by
  have h1:=ZeI v.sub (decide (v.k=7)) true v.ns
  have h3:=Zm5 v.k v.t (ZM (decide (v.k=7)) true v.ns v.sub)
  unfold YR wV
  omega
theorem Zj5:∀ (l:JL),pw l<9223372036854775807→ZqL l
  | .nil,_=>trivial
  | .cons _ t ns sub rest,h=>by
    simp only [pw] at h
    exact ⟨by omega,fun n hn=>by have:=ZjS hn;omega,Zj5 sub (by omega),Zj5 rest (by omega)⟩
theorem ZnT {v:JV} (h:wV v<9223372036854775807):Zj6 v:=by
  unfold wV at h
  exact ⟨by omega,fun n hn=>by have:=ZjS hn;omega,Zj5 _ (by omega)⟩
theorem ZhR (n:Nat):(Zb2 n).length≤4:=by
  unfold Zb2
  split
  ·simp
  split
  ·simp
  split<;>simp
theorem Zqg {l o r:BL} (h:ZrQ l = .ok o r):o.length+r.length≤l.length:=by
  rw [ZdM] at h
  obtain ⟨n,l1,h1,h2⟩:=ZB h
  have hl:=(Zbk 4 h1).1
  split at h2
  ·rename_i l2 hb
   obtain ⟨m,l3,h3,h4⟩:=ZB h2
   have hl3:=(Zbk 4 h3).1
   have hl2:l1.length=l2.length+2:=by
     split at hb
     ·rw [Za6 hb];rfl
     ·cases hb
   split at h4
   ·injection h4 with e1 e2
    have:o.length≤4:=by rw [← e1];exact ZhR _
    rw [← e2]
    omega
   ·injection h4 with e1 e2
    have:o.length≤4:=by rw [← e1];exact ZhR _
    rw [← e2]
    omega
  ·injection h2 with e1 e2
   have:o.length≤4:=by rw [← e1];exact ZhR _
   rw [← e2]
   omega
theorem Zpi {l o r:BL} (h:Zj8 l = .ok o r):o.length+r.length≤l.length:=by
  rcases l with _ | ⟨c,l⟩
  ·cases h
  ·rw [Zcb] at h
   split at h
   ·cases h;simp;omega
   ·split at h
    ·have:=Zqg h;simp;omega
    ·cases h
theorem Zkv {l r:BL} (h:r <:+l):(upto l r).length+r.length=l.length:=by
  obtain ⟨x,rfl⟩:=h
  rw [XT];simp
theorem Zea:∀ (n:Nat) (out l t r:BL),ZdN n out l = .ok t r→t.length+r.length+1≤out.length+l.length
  | 0,_,_,_,_,h=>by cases h
  | n+1,_,[],_,_,h=>by cases h
  | n+1,out,c::l,t,r,h=>by
    rw [Zex] at h
    split at h
    ·cases h
    split at h
    ·cases h;simp;omega
    split at h
    ·obtain ⟨o,l2,h1,h2⟩:=ZB h
     have:=Zpi h1
     have:=Zea n _ _ _ _ h2
     simp at this ⊢
     omega
    split at h
    ·have:=Zea n _ _ _ _ h
     simp at this ⊢
     omega
    ·obtain ⟨o,l2,h1,h2⟩:=ZB h
     have h3:=Zkv (Za1 h1).2
     have h4:=Zea n _ _ _ _ h2
     simp only [List.length_append] at h4
     omega
theorem Zkz {l t r:BL} (h:ZgA l = .ok t r):t.length+r.length+1≤l.length:=by
  have:=Zea _ _ _ _ _ h
  simpa using this
theorem Zno {l nm r:BL} (h:Zcl l = .ok nm r):nm.length+r.length+3≤l.length:=by
  have hs:=Xm l
  unfold Zcl at h
  split at h
  ·rename_i c l1 e
   rw [e] at hs
   split at h
   ·obtain ⟨t,l2,h1,h2⟩:=ZB h
    have h3:=Zkz h1
    have h4:=Xm l2
    split at h2
    ·rename_i d l3 e2
     rw [e2] at h4
     split at h2
     ·cases h2
      simp only [List.length_cons] at hs h4
      omega
     ·cases h2
    ·cases h2
   ·cases h
  ·cases h
theorem Zr3 {pv:BL→Out JV} (hv:∀ l v r,pv l = .ok v r→wV v+16*r.length≤16*l.length) {ob:Bool} {ns:List BL} {sub:JL} {l:BL} {q:List BL × JL} {w:BL} (hq:XB pv ob ns sub l = .ok q w) :
    nsW q.1+pw q.2+16*w.length≤nsW ns+pw sub+16*l.length:=by
  unfold XB at hq
  split at hq
  ·obtain ⟨nm,l3,h1,h2⟩:=ZB hq
   obtain ⟨v,l4,h3,h4⟩:=ZB h2
   cases h4
   have a:=Zno h1
   have b:=hv _ _ _ h3
   have c:=Xm l4
   dsimp only
   rw [ZjJ,Znk]
   omega
  ·obtain ⟨v,l4,h3,h4⟩:=ZB hq
   cases h4
   have b:=hv _ _ _ h3
   have c:=Xm l4
   have d:=Xm l
   dsimp only
   rw [ZjJ]
   omega
theorem ZpW {pv:BL→Out JV} (hv:∀ l v r,pv l = .ok v r→wV v+16*r.length≤16*l.length) (ob:Bool):∀ (m:Nat) (ns:List BL) (sub:JL) (l:BL) (p:List BL × JL) (r:BL),
    Zbz pv ob m ns sub l = .ok p r→nsW p.1+pw p.2+16*r.length≤nsW ns+pw sub+16*l.length
  | 0,_,_,_,_,_,h=>by cases h
  | m+1,ns,sub,l,p,r,h=>by
    have go:∀ l',l'.length≤l.length→((XB pv ob ns sub l').bind fun p l2=>Zbz pv ob m p.1 p.2 l2) = .ok p r→nsW p.1+pw p.2+16*r.length≤nsW ns+pw sub+16*l.length:=fun l' hl hq=>by
      obtain ⟨q,w,h1,h2⟩:=ZB hq
      have a:=Zr3 hv h1
      have b:=ZpW hv ob m _ _ _ _ _ h2
      omega
    unfold Zbz at h
    split at h
    ·cases h;dsimp only;have:=l.length_tail;omega
    split at h
    ·exact go _ (Nat.le_refl _) h
    split at h
    ·exact go _ (by simp) h
    ·cases l<;>cases h
theorem Zku {op:Bool→BL→Out JV} (hop:∀ b c l v r,op b (c::l) = .ok v r→wV v+16*r.length≤16*(c::l).length):∀ l v r,ZbL op l = .ok v r→wV v+16*r.length≤16*l.length:=by
  intro l v r h
  have hsk:=Xm l
  unfold ZbL at h
  split at h
  ·cases h
  ·rename_i c l1 e
   rw [e] at hsk
   simp only [List.length_cons] at hsk
   split at h
   ·have:=hop _ _ _ _ _ h;simp only [List.length_cons] at this;omega
   split at h
   ·have:=hop _ _ _ _ _ h;simp only [List.length_cons] at this;omega
   split at h
   ·obtain ⟨t,r1,h1,h2⟩:=ZB h
    cases h2
    have hl:=Zkz h1
    simp only [wV,nsW,pw]
    omega
   split at h
   ·obtain ⟨t,r1,h1,h2⟩:=ZB h
    cases h2
    have hl:=(X9 [110,117,108,108] (by decide)).2.len h1
    simp only [wV,nsW,pw,List.length_nil,List.length_cons] at hl ⊢
    omega
   split at h
   ·obtain ⟨t,r1,h1,h2⟩:=ZB h
    cases h2
    have hl:=(X9 [102,97,108,115,101] (by decide)).2.len h1
    simp only [wV,nsW,pw,List.length_nil,List.length_cons] at hl ⊢
    omega
   split at h
   ·obtain ⟨t,r1,h1,h2⟩:=ZB h
    cases h2
    have hl:=(X9 [116,114,117,101] (by decide)).2.len h1
    simp only [wV,nsW,pw,List.length_nil,List.length_cons] at hl ⊢
    omega
   split at h
   ·obtain ⟨t,r1,h1,h2⟩:=ZB h
    cases h2
    have hl:=Znj.len h1
    have hu:=Zkv (ZkM h1)
    simp only [wV,nsW,pw,List.length_cons] at hl hu ⊢
    omega
   ·cases h
theorem Zmv:∀ (d:Nat) (l:BL) (v:JV) (r:BL),ZQ d l = .ok v r→wV v+16*r.length≤16*l.length
  | 0,l,v,r,h=>Zku (op:=fun _ l=>YX 23 l) (fun b c l v r h=>by cases h) l v r h
  | d+1,l,v,r,h=>by
    refine Zku (op:=Zh9 (ZQ d)) (fun b c l v r h=>?_) l v r h
    obtain ⟨p,q,h1,h2⟩:=ZB h
    cases h2
    have hs:=Xm l
    have a:=ZpW (Zmv d) b _ _ _ _ _ _ h1
    have hs':(Yv (c::l).tail).length≤l.length:=hs
    simp only [wV,nsW,pw,List.length_nil,List.length_cons] at a ⊢
    omega
theorem Zqs {l:BL} {v:JV} (h:XJ l = .ok v):wV v≤1048576:=by
  by_cases hl:l.length≤65536
  ·rw [Zdr hl] at h
   cases h1:ZQ 64 l with
   | err k q=>rw [h1] at h;cases h
   | ok w r =>
     rw [h1] at h
     simp only at h
     have:=Zmv 64 l w r h1
     split at h
     ·cases h;omega
     ·cases h
  ·rw [Zds (by omega)] at h;cases h
theorem Zm8 (l:BL) (v:JV) (h:XJ l = .ok v):Zj6 v∧(YR v).length<800000000:=by
  have:=Zqs h
  have:=Zhc v
  exact ⟨ZnT (by omega),by omega⟩
end Go.Js
namespace Go.Proofs.YtpjbjdheeemdiaaGreatDoor
open Go Go.Fw Go.Js Go.ChangeShapes Go.WideShapes
theorem ZpI {h:Zc} {x:Sl} {n:Nat} {vs:List Value} (hr:Row h x n vs) (hn:0<n):inS (fun b=>b<sz h) x:=by
  intro h0 b hb
  rcases hr.at_ with hz | ⟨b',o,hp,hh⟩
  ·exact absurd hz h0
  ·have:b'=b:=by unfold Sl.blk at hb;rw [hp] at hb;simpa using hb
   subst this
   refine Zp0 hh fun e=>?_
   have hl:=hr.len
   rw [e] at hl
   have:x.len*n≠0:=Nat.mul_ne_zero h0 (by omega)
   exact this (by rw [← hl];rfl)
theorem ZtT {α:Type} {l:List α} {i:Nat} {x:α} (h:l[i]?=some x):i<l.length:=(List.getElem?_eq_some_iff.1 h).1
theorem Zj4 {α:Type} {f:α→List Value} {n:Nat} (hf:∀ a,(f a).length=n):∀ l:List α,(l.flatMap f).length=l.length*n
  | []=>by simp
  | a::l=>by rw [List.flatMap_cons,List.length_append,hf,Zj4 hf l,List.length_cons,Nat.succ_mul];omega
theorem ZnQ {α:Type} {f:α→List Value} {n:Nat} (hf:∀ a,(f a).length=n):∀ (l:List α) (i m:Nat) (a:α),l[i]?=some a→m<n→(l.flatMap f)[i*n+m]?=(f a)[m]?
  | [],i,m,a,h,_=>by simp at h
  | x::l,0,m,a,h,hm=>by
    simp at h
    subst h
    rw [List.flatMap_cons,Nat.zero_mul,Nat.zero_add,List.getElem?_append_left (by rw [hf];exact hm)]
  | x::l,i+1,m,a,h,hm=>by
    rw [List.flatMap_cons,List.getElem?_append_right (by rw [hf,Nat.succ_mul];omega),hf,show (i+1)*n+m - n=i*n+m by rw [Nat.succ_mul];omega]
    exact ZnQ hf l i m a (by simpa using h) hm
theorem ZmO {α:Type} (f:α→Nat):∀ l:List α,(l.map fun x=>16*f x).sum=16*(l.map f).sum
  | []=>rfl
  | x::l=>by rw [List.map_cons,List.sum_cons,ZmO f l,List.map_cons,List.sum_cons];omega
theorem ZpF {α:Type} {f g:α→Nat}:∀ {l:List α},(∀ x∈l,f x≤g x)→(l.map f).sum≤(l.map g).sum
  | [],_=>Nat.le_refl _
  | x::l,h=>by
    have:=h x (by simp)
    have:=ZpF (l:=l) fun y hy=>h y (List.mem_cons_of_mem _ hy)
    simp only [List.map_cons,List.sum_cons];omega
theorem Zle {H:Type} {d:DataW H}:∀ {l:List (DataW H)},d∈l→Rows.uptoBulk d≤Rows.uptoBulkAll l
  | [],h=>by cases h
  | x::l,h=>by
    simp only [Rows.uptoBulkAll]
    rcases List.mem_cons.1 h with rfl | h
    ·omega
    ·have:=Zle h;omega
theorem Zld {H:Type} (D:Nat→DataW H):∀ l:List Nat,Rows.uptoBulkAll (l.map D)=(l.map fun i=>Rows.uptoBulk (D i)).sum
  | []=>rfl
  | x::l=>by simp only [List.map_cons,Rows.uptoBulkAll,List.sum_cons,Zld D l]
section
variable {H:Type} {enc:TypeId × Value→H} {P:Program} {w:World} {base:Nat} {spare:Nat→Bool} {held:Bool}
theorem ZqM {fs:Array Field} {l:List (TypeId × Nat)} (hf:fs.toList.map (fun f=>(f.type,f.offset))=l) {i:Nat} {p:TypeId × Nat} (hp:l[i]?=some p):∃ f,fs[i]?=some f∧f.type=p.1∧f.offset=p.2:=by
  subst hf
  rw [List.getElem?_map,Option.map_eq_some_iff] at hp
  obtain ⟨f,h1,rfl⟩:=hp
  exact ⟨f,by simpa using h1,rfl,rfl⟩
theorem Zlj {α:Type} [Inhabited α] {g:α→List Value} {n:Nat} (hg:∀ a,(g a).length=n) (hn:0<n) {Pa:α→Prop} {μ:α→Nat} {u t:TypeId} {fuel N:Nat} {a:Option Addr} {len cap:Nat} {x:DataW H × List MemPlace} (hu:P.underlying u=some (.slice t)) (hc:P.cellsOf t=n)
    (elem:∀ {fuel:Nat} {cs:List Value} {y:DataW H × List MemPlace},Rows.uptoBulk y.1<N→DataW.trod enc P w base spare held fuel t cs=some y→∃ a:α,cs=g a∧Pa a∧μ a≤16*Rows.uptoBulk y.1)
    (hN:Rows.uptoBulk x.1≤N) (h:DataW.trod enc P w base spare held fuel u [.slice a len cap]=some x):∃ l:List α,(Row w.heap ⟨a,len,cap⟩ n (l.flatMap g)∧∀ a,a∈l→Pa a)∧(l.map μ).sum+16≤16*Rows.uptoBulk x.1:=by
  rcases Deep.open_slice hu h with ⟨hcs,rfl⟩ | ⟨a',len',cap',m,n',D,Pl,hcs,_,hl,hm,hmm,rfl,hx⟩
  ·simp at hcs
   obtain ⟨rfl,rfl,rfl⟩:=hcs
   exact ⟨[],⟨Row.nil _ n,by simp⟩,by simp [Rows.uptoBulk]⟩
  ·simp at hcs
   obtain ⟨rfl,rfl,rfl⟩:=hcs
   have hlen:len≤m:=by rw [hmm];split<;>omega
   have hbig:cap<9223372036854775808:=Znq hm
   have each:∀ i,i<len→∃ a:α,w.cells? base (a'.add (i*n)) n=some (g a)∧Pa a∧μ a≤16*Rows.uptoBulk (D i):=by
     intro i hi
     obtain ⟨cs',h1,h2⟩:=hx i (by omega)
     rw [hc] at h1
     obtain ⟨r,rfl,hp,hb⟩:=elem (by
       have:=Zle (d:=D i) (l:=(List.range len).map D) (List.mem_map.2 ⟨i,by simpa using hi,rfl⟩)
       simp only [Rows.uptoBulk] at hN ⊢
       omega) h2
     exact ⟨r,h1,hp,hb⟩
   obtain ⟨f,hf⟩:=Deep.choose_lt each
   have cell:∀ i,i<len→∀ k,k<n→w.cell? ((a'.add (i*n)).add k)=(g (f i))[k]?:=fun i hi k hk=>(World.cells?_some (hf i hi).1).2.2 k hk
   refine ⟨(List.range len).map f,⟨⟨by rw [Zj4 hg];simp,hl,hbig,?_⟩,fun a ha=>?_⟩,?_⟩
   ·rcases Nat.eq_zero_or_pos len with h0 | h0
    ·exact .inl h0
    ·right
     have hsp:a'=⟨a'.block,a'.off,none⟩:=by
       have h0:=cell 0 (by omega) 0 hn
       have e0:(a'.add (0*n)).add 0=a':=by rw [Nat.zero_mul];rfl
       rw [e0,List.getElem?_eq_getElem (by rw [hg];exact hn)] at h0
       exact ZmS h0
     refine ⟨a'.block,a'.off,by rw [← hsp],ZnJ fun k v hv=>?_⟩
     have hk:k<len*n:=by
       have:=ZtT hv
       rw [Zj4 hg] at this
       simpa using this
     have hdm:=Nat.div_add_mod k n
     have hi:k / n<len:=(Nat.div_lt_iff_lt_mul hn).2 hk
     have hj:k % n<n:=Nat.mod_lt _ hn
     have e1:=ZnQ hg ((List.range len).map f) (k / n) (k % n) (f (k / n)) (by rw [List.getElem?_map,List.getElem?_range hi];rfl) hj
     have ek:k / n*n+k % n=k:=by rw [Nat.mul_comm];exact hdm
     rw [ek,hv] at e1
     have:=cell (k / n) hi (k % n) hj
     rw [hsp,Zlm,Zlm,Zdj,← e1] at this
     rw [← ek,← Nat.add_assoc]
     exact this
   ·obtain ⟨i,hi,rfl⟩:=List.mem_map.1 ha
    exact (hf i (by simpa using hi)).2.1
   ·have h1:((List.range len).map fun i=>μ (f i)).sum≤((List.range len).map fun i=>16*Rows.uptoBulk (D i)).sum:=ZpF fun i hi=>(hf i (by simpa using hi)).2.2
    rw [ZmO] at h1
    simp only [Rows.uptoBulk,List.map_map,Zld]
    have:((List.range len).map (μ ∘ f)).sum=((List.range len).map fun i=>μ (f i)).sum:=rfl
    omega
end
def Zso:List JV→JL
  | []=> .nil
  | v::l=> .cons v.k v.t v.ns v.sub (Zso l)
theorem Zr1:∀ l:List JV,pw (Zso l)=(l.map wV).sum
  | []=>rfl
  | v::l=>by simp only [Zso,pw,List.map_cons,List.sum_cons,Zr1 l,wV]
theorem ZpN:∀ l:List BL,nsW l=(l.map fun n=>6*n.length+3).sum
  | []=>rfl
  | v::l=>by simp only [nsW,List.map_cons,List.sum_cons,ZpN l]
theorem Znv {h:Zc} {S:Nat→Prop}:∀ (l:List (VT5 × JV)),(∀ p∈l,Zap h S p.1 p.2)→XY h S (Zso (l.map (·.2))) (l.flatMap fun p=>Y9 p.1)
  | [],_=>rfl
  | p::l,hp=>by
    obtain ⟨a,b,c,d,cx,e,f,g⟩:=hp p (by simp)
    refine ⟨p.1.2.2.1,p.1.2.2.2.1,cx,l.flatMap fun p=>Y9 p.1,?_,c,d,e,f,g,Znv l fun q hq=>hp q (List.mem_cons_of_mem _ hq)⟩
    rw [List.flatMap_cons,← a,← b]
section
variable {H:Type} {enc:TypeId × Value→H} {P:Program} {w:World} {base:Nat} {spare:Nat→Bool} {held:Bool}
theorem ZtR {α:Type} {l:List α} (h:l.length=4):∃ a b c d,l=[a,b,c,d]:=by
  match l,h with
  | [a,b,c,d],_=>exact ⟨a,b,c,d,rfl⟩
theorem ZnP:∀ l:List BL,l.flatMap (fun n=>[sV n])=l.map sV
  | []=>rfl
  | a::l=>by rw [List.flatMap_cons,ZnP l];rfl
theorem Zjs {t tk ts tl tn:TypeId} {fs:Array Field} (ht:P.underlying t=some (.struct fs)) (hc:P.cellsOf t=4) (hk:P.underlying tk=some (.int .u8)) (hs:P.underlying ts=some .string) (hl:P.underlying tl=some (.slice t)) (hn:P.underlying tn=some (.slice ts))
    (ck:P.cellsOf tk=1) (cs_:P.cellsOf ts=1) (cl:P.cellsOf tl=1) (cn:P.cellsOf tn=1) (hf:fs.toList.map (fun f=>(f.type,f.offset))=[(tk,0),(ts,1),(tl,2),(tn,3)]):∀ (N:Nat) {fuel:Nat} {cs:List Value} {x:DataW H × List MemPlace},Rows.uptoBulk x.1<N →
    DataW.trod enc P w base spare held fuel t cs=some x→∃ (p:VT5 × JV),cs=Y9 p.1∧Zap w.heap (fun b=>b<sz w.heap) p.1 p.2∧wV p.2≤16*Rows.uptoBulk x.1
  | 0,_,_,_,hN,_=>absurd hN (Nat.not_lt_zero _)
  | N+1,fuel,cs,x,hN,h=>by
    have ih:=@Zjs t tk ts tl tn fs ht hc hk hs hl hn ck cs_ cl cn hf N
    obtain ⟨xs,n,rfl,rfl,hlen,hxl,hall⟩:=DataW.trod_struct ht h
    rw [hc] at hlen
    have hfl:fs.size=4:=by
      have:=congrArg List.length hf
      simpa using this
    obtain ⟨x0,x1,x2,x3,rfl⟩:=ZtR (hxl.trans hfl)
    haveI:Inhabited (VT5 × JV):=⟨((0,ByteArray.empty,⟨none,0,0⟩,⟨none,0,0⟩,()),⟨0,[],[],.nil⟩)⟩
    match cs,hlen with
    | [c0,c1,c2,c3],_ =>
      have fld:∀ {i:Nat} {p:TypeId × Nat},([(tk,0),(ts,1),(tl,2),(tn,3)]:List (TypeId × Nat))[i]?=some p→DataW.trod enc P w base spare held n p.1 (([c0,c1,c2,c3].drop p.2).take (P.cellsOf p.1))=[x0,x1,x2,x3][i]?:=fun {i p} hp=>by
        obtain ⟨f,g1,g2,g3⟩:=ZqM hf hp
        have:=hall i f g1
        rw [g2,g3] at this
        exact this
      have f0:_=some x0:=fld (i:=0) rfl
      have f1:_=some x1:=fld (i:=1) rfl
      have f2:_=some x2:=fld (i:=2) rfl
      have f3:_=some x3:=fld (i:=3) rfl
      dsimp only at f0 f1 f2 f3
      rw [ck] at f0
      rw [cs_] at f1
      rw [cl] at f2
      rw [cn] at f3
      have hb:Rows.uptoBulk x0.1+Rows.uptoBulk x1.1+Rows.uptoBulk x2.1+Rows.uptoBulk x3.1+1=Rows.uptoBulk (.agg ([x0,x1,x2,x3].map (·.1)):DataW H):=by
        simp only [List.map_cons,List.map_nil,Rows.uptoBulk,Rows.uptoBulkAll];omega
      dsimp only at hN
      obtain ⟨m0,h0,_,w0⟩:=DataW.trod_int hk f0
      obtain ⟨s1,h1,e1,z1⟩:=DataW.trod_string hs f1
      simp at h0 h1
      subst h0 h1
      have w0:=ZtA w0
      have sl:∀ {u e:TypeId} {c:Value} {y:DataW H × List MemPlace},P.underlying u=some (.slice e)→DataW.trod enc P w base spare held n u [c]=some y→∃ s:Sl,c=slV s:=fun {u e c y} hu hy=>by
        rcases Deep.open_slice hu hy with ⟨hcs,_⟩ | ⟨a',len',cap',m,n',D,Pl,hcs,_⟩
        ·simp at hcs;exact ⟨⟨none,0,0⟩,hcs⟩
        ·simp at hcs;exact ⟨⟨some a',len',cap'⟩,hcs⟩
      obtain ⟨x2s,rfl⟩:=sl hl f2
      obtain ⟨x3s,rfl⟩:=sl hn f3
      obtain ⟨al,⟨ar,ap⟩,ab⟩:=Zlj (α:=VT5 × JV) (g:=fun p=>Y9 p.1) (n:=4) (Pa:=fun p=>Zap w.heap (fun b=>b<sz w.heap) p.1 p.2) (μ:=fun p=>wV p.2) (N:=N) (fun _=>rfl) (by decide) hl hc ih (by omega) f2
      obtain ⟨nl,⟨nr,_⟩,nb⟩:=Zlj (α:=BL) (g:=fun n=>[sV n]) (n:=1) (Pa:=fun _=>True) (μ:=fun n=>6*n.length+3) (N:=N) (fun _=>rfl) (by decide) hn cs_ (fun {fuel cs y} _ h=>by
        obtain ⟨s,hs',he,_⟩:=DataW.trod_string hs h
        refine ⟨s.data.toList,by rw [hs'],trivial,?_⟩
        rw [he]
        simp only [Rows.uptoBulk]
        omega) (by omega) f3
      have nr':Row w.heap x3s 1 (nl.map sV):=by
        rw [← ZnP];exact nr
      refine ⟨((m0,s1,x2s,x3s,()),⟨m0.toNat,s1.data.toList,nl,Zso (al.map (·.2))⟩),rfl,⟨by dsimp only;omega,rfl,nr',ZpI nr' (by decide),_,ar,ZpI ar (by decide),Znv al ap⟩,?_⟩
      dsimp only
      rw [← hb]
      simp only [wV,ZpN,Zr1,List.map_map]
      have e:((al.map (wV ∘ fun x=>x.2))).sum=(al.map fun p=>wV p.2).sum:=rfl
      rw [e1] at hb ⊢
      simp only [Rows.uptoBulk] at hb ⊢
      omega
theorem Zh2 {a:Assume} {C:Checked} {os:Os} {f:FuncId} {fn:Func} {s:OpenSpec} {k:(H:Type)→List (DataW H)→Bool} (hk:s.cond=some k) {F:Stop.Interp} {conds:List PathCond} {apart fresh handsOn again:Bool} {X:World→Array Value→Prop}
    (hX:∀ (w w':World) (args:Array Value),w.heap=w'.heap→X w args→X w' args)
    (own:ownKnob C.prog.godebug=none) (started:os.Started) (noInit:C.prog.inits.idxOf? f=none) (hfn:C.prog.funcs[f]?=some fn)
    (witness:∃ (w:World) (tape:Tape) (i:Input),w.os=os∧(w.forCall tape i).Shaped C.prog∧i.vars=[]∧Input.okWide C.prog (w.forCall tape i) .any w.heap.size f i ∧
      ((s.pre enc C.prog fn conds apart (w.forCall tape i).memory i.args∧X (w.forCall tape i).memory i.args)∧sizedMet enc C.prog fn s apart (w.forCall tape i).memory i.args)∧a.holds C.prog (lone (Frame.enter C.prog f i.args .normal) [] (w.forCall tape i)))
    (contract:∀ (W:World) (base:Nat) (args:Array Value) (ds gs:List (DataW H)) (before:List MemPlace),
      (∀ (j:Nat) t v,fn.params[j]?=some t→args[j]?=some v→Value.okWide C.prog W .any base t v) →
      DataW.Whole enc C.prog fn.params.toList s.vars apart W args.toList ds gs before→k H (ds++gs)=true→X W args→W.ShapedOpen C.prog →
      Calls C.prog f args W fun e W'=>∃ v,e = .returned v∧(s.at F).post enc C.prog fn apart fresh handsOn again W args v W') :
    ReturnsInHanded a C os f .any (fun w args=>(s.pre enc C.prog fn conds apart w args∧X w args)∧sizedMet enc C.prog fn s apart w args) ((s.at F).post enc C.prog fn apart fresh handsOn again):=by
  refine returnsInHanded_of_calls own started noInit witness ?_
  intro w tape i _ hsh _ hok hpre _
  obtain ⟨_,_,_,fn',hfn',_,_,_,_,hval⟩:=hok
  have e:fn'=fn:=Option.some.inj (hfn'.symm.trans hfn)
  subst e
  obtain ⟨⟨hp,hx⟩,_⟩:=hpre
  obtain ⟨ds,gs,before,hw,_,hkk⟩:=(OpenSpec.pre_some hk conds apart _ _).1 hp
  have hw':=DataW.Whole.of_heap (w':=w.forCall tape i) (by rfl) hw
  refine (contract (w.forCall tape i) w.heap.size i.args ds gs before hval hw' hkk (hX _ _ _ (by rfl) hx) hsh).mono fun e W' ⟨v,he,hp⟩=>?_
  subst he
  exact ChangeSpec.post_blind hp
theorem ZhJ {C:Checked} {os:Os} {f:FuncId} {fn:Func} {s:OpenSpec} {k:(H:Type)→List (DataW H)→Bool} (hk:s.cond=some k) {conds:List PathCond} {apart:Bool} {X:World→Array Value→Prop} (modest:Bool) (w0:World) (args:Array Value) (fuel:Nat) (hos:w0.os=os)
    (hsh:(w0.forCall (fun _ _=>0) ⟨#[],args,[]⟩).Shaped C.prog)
    (hok:Input.okWideB C.prog (w0.forCall (fun _ _=>0) ⟨#[],args,[]⟩) f ⟨#[],args,[]⟩=true)
    {x:List (DataW H) × List (DataW H) × List MemPlace} (hx:DataW.whole enc C.prog (w0.forCall (fun _ _=>0) ⟨#[],args,[]⟩).memory fn.params.toList s.vars apart args.toList fuel=some x)
    (hconds:conds.all (PathCond.test C.prog ⟨fn.params.toList,x.1,s.bare.plain.varTypes C.prog,x.2.1⟩)=true) (hkk:k H (x.1++x.2.1)=true)
    (hsz:s.bare.sizedB enc C.prog fn apart (w0.forCall (fun _ _=>0) ⟨#[],args,[]⟩).memory args fuel=true)
    (hX:X (w0.forCall (fun _ _=>0) ⟨#[],args,[]⟩).memory args) :
    ∃ (w:World) (tape:Tape) (i:Input),w.os=os∧(w.forCall tape i).Shaped C.prog∧i.vars=[]∧Input.okWide C.prog (w.forCall tape i) .any w.heap.size f i ∧
      ((s.pre enc C.prog fn conds apart (w.forCall tape i).memory i.args∧X (w.forCall tape i).memory i.args)∧sizedMet enc C.prog fn s apart (w.forCall tape i).memory i.args)∧({ modest:=modest }:Assume).holds C.prog (lone (Frame.enter C.prog f i.args .normal) [] (w.forCall tape i)) :=
  ⟨w0,fun _ _=>0,⟨#[],args,[]⟩,hos,hsh,(Input.okWide_of_okWideB (base:=0) hok).1,(Input.okWide_of_okWideB hok).2,
    ⟨⟨(OpenSpec.pre_some hk conds apart _ _).2 ⟨x.1,x.2.1,x.2.2,DataW.Whole_of_whole hx,hconds,hkk⟩,hX⟩,sizedMet_of_sizedB hsz⟩,by
    simp only [Assume.holds]
    exact ⟨by simp,by simp,fun _=>Modest.zero,by simp,by simp⟩⟩
end
end Go.Proofs.YtpjbjdheeemdiaaGreatDoor
namespace Go.Proofs.YtpjbjdheeemdiaaGreatDoor
open Go Go.Fw Go.Js
theorem ZiB {h:Zc} {z:VT5} {v:JV} {s:ByteArray} {K:Bool→HP} (hv:Zap h (fun b=>b<sz h) z v∧wV v≤16777216) (_hs:s.size≤140737488351232) (ht:ZaM h) (hh:9≤sz h)
    (hk:∀ h',Ext h h'→K true h'):YG z s K h :=
  Zkl Zm8 hv.1 (fun _ hj=>hj) (ZnT (by have:=hv.2;omega)) (by have:=hv.2;have:=Zhc v;omega) ht hh hk
end Go.Proofs.YtpjbjdheeemdiaaGreatDoor
