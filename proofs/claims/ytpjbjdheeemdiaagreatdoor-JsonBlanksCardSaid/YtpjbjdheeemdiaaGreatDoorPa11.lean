/- Strings: the program's reader. -/
import Derived.Test.YtpjbjdheeemdiaaGreatDoorPa10
set_option linter.unusedVariables false
set_option linter.unusedSimpArgs false
namespace Go.Proofs.YtpjbjdheeemdiaaGreatDoor
open Go Go.Fw Go.Js
def TP (out l:BL):Out BL:=ZdI (l.length+1) out l
theorem ZjG {n:Nat} {out l:BL} (h:l.length<n):ZdI n out l=TP out l:=by
  unfold TP
  rw [(Zho n l h).1,(Zho (l.length+1) l (Nat.lt_succ_self _)).1]
  exact ZaY _ _ _ _ _ h (Nat.lt_succ_self _)
theorem ZpV (out:BL) (c:UInt8) (l:BL):TP out (c::l) =
    if c.toNat<32 then .err 22 (c::l)
    else if c=34 then .ok out l
    else if c=92 then (Zkn l).bind fun o l2=>TP (out++o) l2
    else if c.toNat<128 then TP (out++[c]) l
    else (ZbN Xo (c::l)).bind fun x l2=>TP (out++x) l2:=by
  show ZdI ((c::l).length+1) out (c::l)=_
  rw [ZgA]
  have e1:((Zkn l).bind fun o l2=>ZdI (c::l).length (out++o) l2)=(Zkn l).bind fun o l2=>TP (out++o) l2:=by
    cases h:Zkn l with
    | err e r=>rfl
    | ok o r=>exact ZjG (by have:=(ZmY h).2.length_le;simp;omega)
  have e2:((Xo (c::l)).bind fun _ l2=>ZdI (c::l).length (out++Zf7 (c::l) l2) l2)=(ZbN Xo (c::l)).bind fun x l2=>TP (out++x) l2:=by
    unfold ZbN
    cases h:Xo (c::l) with
    | err e r=>rfl
    | ok o r=>exact ZjG (by have:=(Za9 h).1;simp at this ⊢;omega)
  rw [e1,e2,ZjG (n:=(c::l).length) (l:=l) (by simp)]
theorem Zie {h:Zc} {R:Nat} {s:ByteArray} {c0:UInt8} {l:BL} (hr:Rd h R s (c0::l)) (ht:Zaq h) (hR:9≤R) {K:ByteArray→HP} {P:Value→HP}
    (hok:∀ t r h',Zf8 l = .ok t r→Rd h' R s r→Upd (· = R) h h'→K (Zd t) h') (herr:OnE h R s (· = R) (Zf8 l) P):Yc (At R) K P h:=by
  unfold Yc Zaj
  have hll:=hr.len
  have hRs:=hr.lt
  refine X7 hr fun h1 r1 u1 z1=>ZbP fun h2 c2 e2 z2=>?_
  have hB:h1.size=sz h:=z1
  have r2:=r1.ext e2
  have b2:Bld h2 h1.size 188 []:=⟨.inl rfl,.pointer none,⟨none,0,0⟩,c2,.inl rfl,Buf.nil _ _⟩
  have hRB:R<h1.size:=by rw [hB];exact hRs
  have t2:Zaq h2:=(ht.upd u1 fun k hk=>by subst hk;exact hR).ext e2
  have low:∀ {a:Zc},Upd (UB R h1.size) h2 a→Upd (· = R) h a:=fun {a} u=>UT u1 (UN e2 u) fun k hk=>by
    rcases hk with rfl | hk
    ·exact .inl rfl
    ·right;rw [hB] at hk;exact hk
  refine ZL (fun _ h'=>∃ (l' out:BL),Rd h' R s l'∧Bld h' h1.size 188 out∧Zaq h'∧TP out l'=Zf8 l∧out.length+l'.length≤65536∧Upd (UB R h1.size) h2 h') (fun _ h'=>left h' R) ⟨l,[],r2,b2,t2,rfl,by simp at hll ⊢;omega,Upd.refl _ _⟩ ?_
  rintro ⟨⟩ h3 ⟨l3,out,r3,b3,t3,q3,n3,u3⟩
  have keepR:∀ {a b:Zc} {q:BL},Rd a R s q→Upd (fun k=>h1.size≤k) a b→Rd b R s q:=fun r u=>r.upd u (by omega)
  have keepB:∀ {a b:Zc} {o:BL},Bld a h1.size 188 o→Upd (· = R) a b→Bld b h1.size 188 o:=fun r u=>r.upd u (fun k hk=>by subst hk;exact hRB)
  have tU:∀ {b:Zc},Upd (UB R h1.size) h3 b→Zaq b:=fun u=>t3.upd u fun k hk=>by rcases hk with rfl | hk<;>omega
  have er:∀ {e:Nat} {r:BL} {h':Zc},TP out l3 = .err e r→Upd (UB R h1.size) h3 h'→P (Zbp e (s.size - r.length)) h':=fun he u=>herr _ _ _ (by rw [← q3];exact he) (low (u3.trans u))
  refine Yu r3 (Za ?_)
  refine ZC (fun p h'=>h'=h3∧p.1=decide (l3=[]∨Xk l3<32)) ?_ ?_
  ·rintro ⟨b,u⟩ h4 ⟨rfl,hb⟩
   dsimp only at hb ⊢
   subst hb
   rcases l3 with _ | ⟨c,l3⟩
   ·refine Zp (by simp) (Xf (α:=BL) r3 rfl fun e' r he hr'=>er ?_ (Upd.refl _ _))
    rw [← he];rfl
   have hz:Xk (c::l3)=(c.toNat:Int):=rfl
   have hq:=ZpV out c l3
   rw [hz]
   by_cases h32:c.toNat<32
   ·refine Zp (by simp;omega) (Xf (α:=BL) r3 rfl fun e' r he hr'=>er ?_ (Upd.refl _ _))
    rw [hq,if_pos h32,← he];rfl
   rw [if_neg h32] at hq
   refine Zt (by simp;omega) (Zg (Xn (fun h34=>?_) fun h34=>Zg (Xn (fun h92=>?_) fun h92=>Zg (Zo (fun h128=>?_) fun h128=>?_))))
   ·have hc:c=34:=ZdG (d:=34) h34
    rw [if_pos hc] at hq
    refine X7 r3 fun h5 r5 u5 z5=>Zfc (keepB b3 u5) fun h6 u6=>?_
    exact hok out l3 h6 (by rw [← q3];exact hq) (keepR r5 u6) (low ((u3.trans (u5.mono fun k _ hk=> .inl hk)).trans (u6.mono fun k _ hk=> .inr hk)))
   all_goals have n34:c≠34:=Zd7 (d:=34) h34
   all_goals rw [if_neg n34] at hq
   ·have hc:c=92:=ZdG (d:=92) h92
    rw [if_pos hc] at hq
    refine X7 r3 fun h5 r5 u5 z5=>?_
    have u5':Upd (UB R h1.size) h4 h5:=u5.mono fun k _ hk=> .inl hk
    refine Zjw r5 (keepB b3 u5) hRB (by simp at n3;omega) (fun o r h6 ho r6 b6 u6=>?_) fun e r h6 he u6=>er (by rw [hq,he];rfl) (u5'.trans u6)
    have hel:=ZmY ho
    have hrl:=hel.2.length_le
    simp only [List.length_cons] at n3
    refine ⟨⟨r,out++o,r6,b6,tU (u5'.trans u6),by rw [← q3,hq,ho];rfl,by simp;omega,u3.trans (u5'.trans u6)⟩,?_⟩
    rw [r3.left,r6.left];simp;omega
   all_goals have n92:c≠92:=Zd7 (d:=92) h92
   all_goals rw [if_neg n92] at hq
   ·rw [if_pos (by omega)] at hq
    simp only [List.length_cons] at n3
    refine Ze0 b3 rfl (by omega) fun h5 b5 u5=>?_
    have u5':Upd (UB R h1.size) h4 h5:=u5.mono fun k _ hk=> .inr hk
    refine X7 (keepR r3 u5) fun h6 r6 u6 z6=>?_
    have u6':Upd (UB R h1.size) h5 h6:=u6.mono fun k _ hk=> .inl hk
    refine ⟨⟨l3,out++[c],r6,keepB b5 u6,tU (u5'.trans u6'),by rw [← q3,hq],by simp;omega,u3.trans (u5'.trans u6')⟩,?_⟩
    rw [r3.left,r6.left];simp
   ·rw [if_neg (by omega)] at hq
    simp only [List.length_cons] at n3
    refine ZkP r3 b3 t3 (by simp) hR hRB (by omega) (fun x r h5 hx r5 b5 u5=>?_) fun e r h5 he u5=>er (by rw [hq,he];rfl) u5
    obtain ⟨⟨_,hx1⟩,hx2⟩:=ZcK hx
    obtain ⟨y,hy,hy1⟩:=Zfd hx1
    have hxy:x=y:=by rw [hx2,hy,XR]
    subst hxy
    have hlen:=congrArg List.length hy
    simp only [List.length_cons,List.length_append] at hlen
    have hy0:0<x.length:=by
      rcases x with _ | ⟨d,x⟩
      ·cases hy1
      ·simp
    refine ⟨⟨r,out++x,r5,b5,tU u5,by rw [← q3,hq,hx];rfl,by simp;omega,u3.trans u5⟩,?_⟩
    rw [r3.left,r5.left];simp;omega
  ·refine ZhA r3 (fun he=>⟨rfl,by simp [he]⟩) fun he=>Zg ⟨rfl,by simp [he]⟩
abbrev VT5:=Int × ByteArray × Sl × Sl × Unit
abbrev sV (t:BL):Value:= .string (Zd t)
def XE (z:VT5):List Value:=[.int .u8 z.1,.string z.2.1,slV z.2.2.1,slV z.2.2.2.1]
def inS (S:Nat→Prop) (x:Sl):Prop:=x.len≠0→∀ b,x.blk=some b→S b
def X4 (h:Zc) (S:Nat→Prop):JL→List Value→Prop
  | .nil,vs=>vs=[]
  | .cons k t ns sub rest,vs=>∃ (x y:Sl) (cx vs':List Value),vs=XE ((k:Int),Zd t,x,y,())++vs'∧Row h y 1 (ns.map sV)∧inS S y∧Row h x 4 cx∧inS S x∧X4 h S sub cx∧X4 h S rest vs'
def Zbn (h:Zc) (S:Nat→Prop) (z:VT5) (v:JV):Prop :=
  z.1=v.k∧z.2.1=Zd v.t∧Row h z.2.2.2.1 1 (v.ns.map sV)∧inS S z.2.2.2.1∧∃ cx,Row h z.2.2.1 4 cx∧inS S z.2.2.1∧X4 h S v.sub cx
theorem inS.mono {S S':Nat→Prop} {x:Sl} (h:inS S x) (hs:∀ b,S b→S' b):inS S' x:=fun hl b hb=>hs b (h hl b hb)
theorem Xl {h h':Zc} {S:Nat→Prop} {x:Sl} {n:Nat} {vs:List Value} (hr:Row h x n vs) (hi:inS S x) (he:∀ b,S b→b<sz h→obj h' b=obj h b):Row h' x n vs:=by
  refine hr.congr fun b o hp hne hb=>he b (hi ?_ b (by simp [Sl.blk,hp])) hb
  intro h0
  exact hne (hr.nil_of h0)
theorem X4.keep {h h':Zc} {S S':Nat→Prop} (he:∀ b,S b→b<sz h→obj h' b=obj h b) (hs:∀ b,S b→S' b):∀ {l:JL} {vs:List Value},X4 h S l vs→X4 h' S' l vs
  | .nil,_,h=>h
  | .cons k t ns sub rest,vs,h=>by
    obtain ⟨x,y,cx,vs',e,a,b,c,d,f,g⟩:=h
    exact ⟨x,y,cx,vs',e,Xl a b he,b.mono hs,Xl c d he,d.mono hs,X4.keep he hs f,X4.keep he hs g⟩
theorem Zbn.keep {h h':Zc} {S S':Nat→Prop} {z:VT5} {v:JV} (hv:Zbn h S z v) (he:∀ b,S b→b<sz h→obj h' b=obj h b) (hs:∀ b,S b→S' b):Zbn h' S' z v:=by
  obtain ⟨a,b,c,d,cx,e,f,g⟩:=hv
  exact ⟨a,b,Xl c d he,d.mono hs,cx,Xl e f he,f.mono hs,g.keep he hs⟩
theorem X4.len {h:Zc} {S:Nat→Prop}:∀ {l:JL} {vs:List Value},X4 h S l vs→vs.length=l.len*4
  | .nil,_,h=>by rw [show _=[] from h];rfl
  | .cons k t ns sub rest,vs,h=>by
    obtain ⟨x,y,cx,vs',e,a,b,c,d,f,g⟩:=h
    rw [e,List.length_append,X4.len g]
    simp [XE,JL.len];omega
theorem X4.snoc {h:Zc} {S:Nat→Prop} {z:VT5} {v:JV} (hv:Zbn h S z v):∀ {l:JL} {vs:List Value},X4 h S l vs→X4 h S (l.snoc v) (vs++XE z)
  | .nil,_,h=>by
    rw [show _=[] from h]
    obtain ⟨a,b,c,d,cx,e,f,g⟩:=hv
    refine ⟨z.2.2.1,z.2.2.2.1,cx,[],?_,c,d,e,f,g,rfl⟩
    simp [XE,a,b]
  | .cons k t ns sub rest,vs,h=>by
    obtain ⟨x,y,cx,vs',e,a,b,c,d,f,g⟩:=h
    exact ⟨x,y,cx,vs'++XE z,by rw [e,List.append_assoc],a,b,c,d,f,X4.snoc hv g⟩
def PS (h:Zc) (b k:Nat) (ns:List BL) (sub:JL):Prop:=∃ (x y:Sl) (cx:List Value),
  obj h b=some (.cells (XE ((k:Int),Zd [],x,y,())).toArray 33 (0,0))∧Own h (b+1) x 4 cx∧Own h (b+1) y 1 (ns.map sV) ∧
    X4 h (fun j=>b+1≤j∧j<sz h∧x.blk≠some j∧y.blk≠some j) sub cx∧∀ j,x.blk=some j→y.blk≠some j
theorem PS.lt {h:Zc} {b k:Nat} {ns:List BL} {sub:JL} (p:PS h b k ns sub):b<sz h:=by
  obtain ⟨x,y,cx,c,_⟩:=p
  exact ZaQ c
theorem PS.upd {S:Nat→Prop} {h h':Zc} {b k:Nat} {ns:List BL} {sub:JL} (p:PS h b k ns sub) (u:Upd S h h') (hs:∀ j,S j→j<b):PS h' b k ns sub:=by
  obtain ⟨x,y,cx,c,ox,oy,lr,ne⟩:=p
  have he:∀ j,b≤j→j<sz h→obj h' j=obj h j:=fun j h1 h2=>Yt u h2 fun h9=>by have:=hs j h9;omega
  have hsz:sz h≤sz h':=u.size
  refine ⟨x,y,cx,(he b (Nat.le_refl _) (ZaQ c)).trans c,ox.congr fun j _ hl hb=>he j (by omega) hl,oy.congr fun j _ hl hb=>he j (by omega) hl,lr.keep (fun j hj hl=>he j (by omega) hl) (fun j hj=>⟨hj.1,by omega,hj.2.2⟩),ne⟩
theorem Zfy:∀ (vs:List Value) (o:Nat) (c:List Value),o+vs.length≤c.length→YW o vs c=c.take o++vs++c.drop (o+vs.length)
  | [],o,c,h=>by simp [YW]
  | v::vs,o,c,h=>by
    simp only [List.length_cons] at h
    unfold YW
    rw [Zfy vs (o+1) (c.set o v) (by simp;omega)]
    rw [List.take_add_one,List.getElem?_set_self (by omega),List.take_set_of_le (Nat.le_refl _),List.drop_set_of_lt (by omega)]
    simp
    congr 1;omega
theorem Zcp (z:VT5):(XE z).all ZW=true:=by simp [XE,ZW,slV]
theorem Znh {h:Zc} {b k:Nat} {ns:List BL} {sub:JL} {x y:Sl} {cx:List Value} (c:obj h b=some (.cells (XE ((k:Int),Zd [],x,y,())).toArray 33 (0,0)))
    (ox:Own h (b+1) x 4 cx) (oy:Own h (b+1) y 1 (ns.map sV)) (lr:X4 h (fun j=>b+1≤j∧j<sz h∧x.blk≠some j∧y.blk≠some j) sub cx) (ne:∀ j,x.blk=some j→y.blk≠some j)
    {z:VT5} {v:JV} {Se:Nat→Prop} (hv:Zbn h Se z v) (hSe:∀ j,Se j→b+1≤j∧j<sz h∧x.blk≠some j∧y.blk≠some j) (hs:sub.len≤100000) {K:HP}
    (hk:∀ h',PS h' b k ns (sub.snoc v)→Upd (fun j=>b≤j) h h'→K h') :
    Fw.app 33 4 72 zV x 1 zV h fun t48 h49=>ZgU t48.ptr t48.len (x.len:Int) 4 fun b51 o52=>Ze (At b) fun b53 o54=>Zlt (
      sts h49 b51 o52 (XE z) fun h55=>st h55 b53 (o54+2) (.slice t48.ptr t48.len t48.cap) K) (
      st h49 b53 (o54+2) (.slice t48.ptr t48.len t48.cap) fun h58=>sts h58 b51 o52 (XE z) K):=by
  have hb:=ZaQ c
  have hlx:x.len=sub.len:=by have:=ox.len;have:=lr.len;omega
  refine ox.app rfl (by decide) rfl (by omega) (by omega) (by have:sz h=h.size:=rfl;omega) fun x' h1 o1 l1 u1 bl1=>?_
  have hsz:sz h≤sz h1:=u1.size
  rcases o1.at_ with ⟨hp,h0⟩ | ⟨g,cs,e,hp,hbg,hg,hcs,hvs⟩
  ·exfalso;have:=o1.cap;omega
  have hgblk:x'.blk=some g:=by simp [Sl.blk,hp]
  have hg':obj h1 g=some (.cells cs.toList.toArray e (0,0)):=by
    have:cs.toList.toArray=cs:=by simp
    rw [this];exact hg
  have hcap:=o1.cap
  have hcl:cs.toList.length=x'.cap*4:=by rw [Array.length_toList];exact hcs
  have hgx:x.blk=some g∨sz h≤g:=by
    rcases bl1 with e1 | e1
    ·left;rw [← e1,hgblk]
    ·right;rw [hgblk] at e1;cases e1;exact Nat.le_refl _
  have hgy:y.blk≠some g:=by
    rcases hgx with e1 | e1
    ·exact ne g e1
    ·intro e2
     have:=(oy.lt e2).2
     have:sz h=h.size:=rfl
     omega
  have c1:obj h1 b=some (.cells (XE ((k:Int),Zd [],x,y,())).toArray 33 (0,0)):=Yq c u1 fun e1=>by have:=(ox.lt e1).1;omega
  have hgb:g≠b:=by omega
  have hle:x.len*4+(XE z).length≤cs.toList.length:=by rw [hcl];simp [XE];omega
  have fin:∀ h',obj h' g=some (.cells (YW (0+x.len*4) (XE z) cs.toList).toArray e (0,0))→obj h' b=some (.cells (XE ((k:Int),Zd [],x',y,())).toArray 33 (0,0)) →
      (∀ j,j≠g→j≠b→obj h' j=obj h1 j)→sz h'=sz h1→K h':=by
    intro h' eg eb ej es
    have hold:∀ j,j<sz h→j≠b→x.blk≠some j→obj h' j=obj h j:=fun j hj hjb hjx=>by
      rw [ej j (by rintro rfl;rcases hgx with e1 | e1;exact hjx e1;omega) hjb]
      exact Yt u1 hj hjx
    have vs9:cx++XE z=(YW (0+x.len*4) (XE z) cs.toList).take (x'.len*4):=by
      rw [Nat.zero_add,Zfy _ _ _ hle,List.take_append_of_le_length (by simp [XE];omega),List.take_of_length_le (by simp [XE];omega)]
      congr 1
      have:=congrArg (fun q=>q.take (x.len*4)) hvs
      simp only [List.take_take,show min (x.len*4) (x'.len*4)=x.len*4 by omega] at this
      rw [← this,List.take_append_of_le_length (by have:=ox.len;omega),List.take_of_length_le (by have:=ox.len;omega)]
    refine hk h' ⟨x',y,cx++XE z,eb,⟨?_,hcap,o1.big,.inr ⟨g,_,e,hp,hbg,eg,?_,?_⟩⟩,?_,?_,?_⟩ ⟨by have:sz h'=h'.size:=rfl;have:sz h=h.size:=rfl;omega,fun j hj hbj=>hold j hj (by omega) fun e1=>by have:=(ox.lt e1).1;omega⟩
    ·have:=ox.len;simp [XE];omega
    ·simp [Zbt,hcs]
    ·simpa using vs9
    ·exact oy.congr fun j hj hl hbj=>hold j hl (by omega) fun e1=>ne j e1 hj
    ·have h1:X4 h' (fun j=>b+1≤j∧j<sz h'∧x'.blk≠some j∧y.blk≠some j) sub cx:=lr.keep (fun j hj hl=>hold j hl (by omega) hj.2.2.1) fun j hj=>⟨hj.1,by omega,by
       rw [hgblk];rintro e1;cases e1
       rcases hgx with e1 | e1
       ·exact hj.2.2.1 e1
       ·omega,hj.2.2.2⟩
     refine h1.snoc (hv.keep (fun j hj hl=>?_) fun j hj=>?_)
     ·have:=hSe j hj
      exact hold j hl (by omega) this.2.2.1
     ·have:=hSe j hj
      refine ⟨this.1,by omega,?_,this.2.2.2⟩
      rw [hgblk];rintro e1;cases e1
      rcases hgx with e1 | e1
      ·exact this.2.2.1 e1
      ·omega
    ·intro j hj
     rw [hgblk] at hj;cases hj
     exact hgy
  rw [hp]
  refine Zjt (n:=x.len) rfl (by omega) ?_
  refine ZP ⟨?_,?_⟩
  ·rw [Zig (by rw [hg',Zbh];simp [XE];omega) (Zcp z)]
   have c2:obj (h1.puts g (0+x.len*4) (XE z)) b=some (.cells (XE ((k:Int),Zd [],x,y,())).toArray 33 (0,0)):=by rw [Zad,if_neg (Ne.symm hgb)];exact c1
   refine ZjZ c2 (by simp [XE]) Ziu fun h9 c9 u9 z9=>fin h9 ?_ (by rw [c9];simp [XE,slV,hp]) (fun j hj1 hj2=>?_) (by rw [z9,Zct])
   ·rw [Yq (S:=(· = b)) (x:= .cells (YW (0+x.len*4) (XE z) cs.toList).toArray e (0,0)) (by rw [Zad,if_pos rfl,hg',Y5]) u9 hgb]
   ·by_cases hl:j<sz h1
    ·rw [Yt u9 (by rw [Zct];exact hl) hj2,Zad,if_neg hj1]
    ·have e1:obj h1 j=none:=Array.getElem?_eq_none (by have:sz h1=h1.size:=rfl;omega)
     have e2:obj h9 j=none:=Array.getElem?_eq_none (by have:sz h9=h9.size:=rfl;rw [← this,z9,Zct];omega)
     rw [e1,e2]
  ·refine ZjZ c1 (by simp [XE]) Ziu fun h8 c8 u8 z8=>?_
   have hg8:obj h8 g=some (.cells cs.toList.toArray e (0,0)):=Yq hg' u8 hgb
   rw [Zig (by rw [hg8,Zbh];simp [XE];omega) (Zcp z)]
   refine fin _ (by rw [Zad,if_pos rfl,hg8,Y5]) (by rw [Zad,if_neg (Ne.symm hgb),c8];simp [XE,slV,hp]) (fun j hj1 hj2=>?_) (by rw [Zct,z8])
   rw [Zad,if_neg hj1]
   by_cases hl:j<sz h1
   ·exact Yt u8 hl hj2
   ·have e1:obj h1 j=none:=Array.getElem?_eq_none (by have:sz h1=h1.size:=rfl;omega)
    have e2:obj h8 j=none:=Array.getElem?_eq_none (by have:sz h8=h8.size:=rfl;rw [← this,z8];omega)
    rw [e1,e2]
theorem Zoy {h:Zc} {b k:Nat} {ns:List BL} {sub:JL} {x y:Sl} {cx:List Value} (c:obj h b=some (.cells (XE ((k:Int),Zd [],x,y,())).toArray 33 (0,0)))
    (ox:Own h (b+1) x 4 cx) (oy:Own h (b+1) y 1 (ns.map sV)) (lr:X4 h (fun j=>b+1≤j∧j<sz h∧x.blk≠some j∧y.blk≠some j) sub cx) (ne:∀ j,x.blk=some j→y.blk≠some j)
    {t:BL} (hs:ns.length≤100000) {K:HP} (hk:∀ h',PS h' b k (ns++[t]) sub→Upd (fun j=>b≤j) h h'→K h') :
    Fw.app 9 1 16 [.string (ByteArray.mk #[])] y 1 [sV t] h fun t18 h19=>Ze (At b) fun b20 o21=>st h19 b20 (o21+3) (.slice t18.ptr t18.len t18.cap) K:=by
  have hb:=ZaQ c
  have hly:y.len=ns.length:=by have:=oy.len;simp at this;omega
  refine oy.app rfl (by simp [ZW]) rfl (by omega) (by omega) (by have:sz h=h.size:=rfl;omega) fun y' h1 o1 l1 u1 bl1=>?_
  have hsz:sz h≤sz h1:=u1.size
  have c1:obj h1 b=some (.cells (XE ((k:Int),Zd [],x,y,())).toArray 33 (0,0)):=Yq c u1 fun e1=>by have:=(oy.lt e1).1;omega
  refine ZP (ZjZ c1 (by simp [XE]) Ziu fun h9 c9 u9 z9=>?_)
  have hold:∀ j,j<sz h→j≠b→y.blk≠some j→obj h9 j=obj h j:=fun j hj hjb hjy=>(Yt u9 (by omega) hjb).trans (Yt u1 hj hjy)
  have hnew:∀ j,y'.blk=some j→y.blk=some j∨sz h≤j:=fun j hj=>by
    rcases bl1 with e1 | e1
    ·left;rw [← e1,hj]
    ·right;rw [hj] at e1;cases e1;exact Nat.le_refl _
  refine hk h9 ⟨x,y',cx,c9,?_,?_,?_,?_⟩ ⟨by have:sz h9=h9.size:=rfl;have:sz h=h.size:=rfl;omega,fun j hj hbj=>hold j hj (by omega) fun e1=>by have:=(oy.lt e1).1;omega⟩
  ·exact ox.congr fun j hj hl hbj=>hold j hl (by omega) (ne j hj)
  ·have:(ns++[t]).map sV=ns.map sV++[sV t]:=by simp
   rw [this]
   exact o1.congr fun j _ hl hbj=>Yt u9 hl (by omega)
  ·refine lr.keep (fun j hj hl=>hold j hl (by omega) hj.2.2.2) fun j hj=>⟨hj.1,by omega,hj.2.2.1,fun e1=>?_⟩
   rcases hnew j e1 with e2 | e2
   ·exact hj.2.2.2 e2
   ·omega
  ·intro j hj e1
   rcases hnew j e1 with e2 | e2
   ·exact ne j hj e2
   ·have:=(ox.lt hj).2
    have:sz h=h.size:=rfl
    omega
def Zh5 (f:Zhd) (pv:BL→Out JV) (deep:Int):Prop:=∀ (h:Zc) (R:Nat) (s:ByteArray) (l:BL) (K:VT5→HP) (P:Value→HP),Rd h R s l→Zaq h→9≤R →
  (∀ v r z h',pv l = .ok v r→Rd h' R s r→Upd (· = R) h h'→Zbn h' (fun j=>sz h≤j∧j<sz h') z v→K z h')→OnE h R s (· = R) (pv l) P→f (At R) deep K P h
theorem ZdF {S:Nat→Prop} {h h':Zc} (u:Upd S h h'):sz h≤sz h':=u.size
theorem Xw {h:Zc} {b o:Nat} {v:Value} {K:Prop} (hc:Xj o (obj h b)=some v) (hk:K):Zbd (ZcI h [(b,o,v)]) K:=by
  refine ⟨⟨?_,trivial⟩,hk⟩
  rw [XU];exact hc
theorem Zme {h:Zc} {b n size:Nat} {l:List Value} {t:TypeId} {f:Nat × Nat} {K:List Value→Prop} (c:obj h b=some (.cells l.toArray t f)) (hl:l.length=n*size) (hk:K l):rdS ⟨some ⟨b,0,none⟩,n,n⟩ size h K :=
  .inr ⟨b,0,l,rfl,hl,ZcJ c (fun i v hi=>by simpa using hi),hk⟩
theorem Zmh {f20:Zhd} {pv:BL→Out JV} {deep:Int} (hf:Zh5 f20 pv deep) {ob:Bool} {k:Nat} (hk:k=if ob then 7 else 6) {h:Zc} {R b:Nat} {s:ByteArray} {l:BL} {ns:List BL} {sub:JL} (hr:Rd h R s l) (ht:Zaq h) (hR:9≤R) (hRb:R<b)
    (ps:PS h b k ns sub) (hn:ns.length≤100000) (hs:sub.len≤100000) {K:HP} {P:Value→HP}
    (hok:∀ p r h',Xs pv ob ns sub l = .ok p r→Rd h' R s r→PS h' b k p.1 p.2→Upd (UB R b) h h'→K h') (herr:OnE h R s (UB R b) (Xs pv ob ns sub l) P):YN f20 (At R) (At b) deep K P h:=by
  unfold YN Zak
  have uR:∀ {a c:Zc},Upd (· = R) a c→Upd (UB R b) a c:=fun u=>u.mono fun k _ hk=> .inl hk
  have uB:∀ {a c:Zc},Upd (fun k=>b≤k) a c→Upd (UB R b) a c:=fun u=>u.mono fun k _ hk=> .inr hk
  have tU:∀ {a c:Zc},Zaq a→Upd (UB R b) a c→Zaq c:=fun t u=>t.upd u fun k hk=>by rcases hk with rfl | hk<;>omega
  have psR:∀ {a c:Zc} {ns:List BL} {sub:JL},PS a b k ns sub→Upd (· = R) a c→PS c b k ns sub:=fun p u=>p.upd u fun j hj=>by subst hj;exact hRb
  refine Zaw hr fun h1 r1 u1 z1=>?_
  have ps1:=psR ps u1
  have t1:=tU ht (uR u1)
  refine ZC (fun _ h'=>∃ l' ns',Rd h' R s l'∧PS h' b k ns' sub∧Zaq h'∧Upd (UB R b) h h'∧Xs pv ob ns sub l=(pv l').bind fun v l4=> .ok (ns',sub.snoc v) (Z3 l4)) ?_ ?_
  ·rintro ⟨⟩ h2 ⟨l2,ns2,r2,p2,t2,u2,q2⟩
   obtain ⟨x,y,cx,c,ox,oy,lr,ne⟩:=id p2
   have hb2:=p2.lt
   have er:∀ {a:Zc} (ua:Upd (UB R b) h a),OnE a R s (· = R) (pv l2) P:=fun ua e r h' he u'=>herr e r h' (by rw [q2,he];rfl) (ua.trans (uR u'))
   have put:∀ {v r z} {h3 h4 h5:Zc},pv l2 = .ok v r→Ext h2 h3→Upd (· = R) h3 h4→Rd h4 R s r→Zbn h4 (fun j=>sz h3≤j∧j<sz h4) z v→Ext h4 h5 →
       Fw.app 33 4 72 zV x 1 zV h5 fun t48 h49=>ZgU t48.ptr t48.len (x.len:Int) 4 fun b51 o52=>Ze (At b) fun b53 o54=>Zlt (
         sts h49 b51 o52 (XE z) fun h55=>st h55 b53 (o54+2) (.slice t48.ptr t48.len t48.cap) fun h56=>Zv (At R) (fun h57=>K h57) h56) (
         st h49 b53 (o54+2) (.slice t48.ptr t48.len t48.cap) fun h58=>sts h58 b51 o52 (XE z) fun h59=>Zv (At R) (fun h60=>K h60) h59):=by
     intro v r z h3 h4 h5 hq e3 u4 r4 v4 e5
     have s3:sz h2≤sz h3:=e3.size
     have s4:sz h3≤sz h4:=u4.size
     have s5:sz h4≤sz h5:=e5.size
     have old:∀ j,b≤j→j<sz h2→obj h5 j=obj h2 j:=fun j hj hl=>by
       rw [Ym e5 (by omega),Yt u4 (by omega) (by omega),Ym e3 hl]
     have lx:∀ j,x.blk=some j→j<sz h2:=fun j e=>(ox.lt e).2
     have ly:∀ j,y.blk=some j→j<sz h2:=fun j e=>(oy.lt e).2
     refine Znh ((old b (Nat.le_refl _) hb2).trans c) (ox.congr fun j _ hl hbj=>old j (by omega) hl) (oy.congr fun j _ hl hbj=>old j (by omega) hl)
       (lr.keep (fun j hj hl=>old j (by omega) hl) fun j hj=>⟨hj.1,by omega,hj.2.2⟩) ne (Se:=fun j=>sz h3≤j∧j<sz h4) (v4.keep (fun j hj hl=>Ym e5 hl) fun j hj=>hj)
       (fun j hj=>⟨by omega,by omega,fun e=>by have:=lx j e;omega,fun e=>by have:=ly j e;omega⟩) hs fun h6 p6 u6=>?_
     have r6:Rd h6 R s r:=(r4.ext e5).upd u6 (by omega)
     refine Zaw r6 fun h7 r7 u7 z7=>hok _ _ h7 (by rw [q2,hq];rfl) r7 (psR p6 u7) ?_
     exact (((u2.trans (e3.upd _)).trans (uR u4)).trans (e5.upd _)).trans ((uB u6).trans (uR u7))
   have bR:¬ b=R:=by omega
   refine ZP (rL (s:=x) (Zm c rfl) ⟨?_,?_⟩)
   ·refine hf h2 R s l2 _ P r2 t2 hR (fun v r z h4 hv r4 u4 v4=>?_) (er u2)
    have c4:=Yq c u4 bR
    refine Xw (Zm c4 rfl) (ZbP fun h5 c5 e5 z5=>Xw (Zm (YK c4 e5) rfl) ?_)
    refine Zme c5 rfl ?_
    exact put hv (Ext.refl _) u4 r4 v4 e5
   ·refine ZbP fun h3 c3 e3 z3=>Xw (Zm (YK c e3) rfl) ?_
    refine hf h3 R s l2 _ P (r2.ext e3) (t2.ext e3) hR (fun v r z h4 hv r4 u4 v4=>?_) (er (u2.trans (e3.upd _)))
    have c4:=Yq (YK c e3) u4 bR
    have c34:=Yq c3 u4 (show ¬ h2.size=R by have:sz h2=h2.size:=rfl;omega)
    refine Xw (Zm c4 rfl) ?_
    refine Zme c34 rfl ?_
    exact put hv e3 u4 r4 v4 (Ext.refl _)
  ·
   obtain ⟨x,y,cx,c,ox,oy,lr,ne⟩:=id ps1
   have hb1:=ps1.lt
   refine ZP (rI (Zm c rfl) ?_)
   cases ob with
   | false =>
     have hk6:k=6:=hk
     refine Zt (by rw [hk6];rfl) ⟨Z3 l,ns,r1,ps1,t1,uR u1,rfl⟩
   | true =>
     have hk7:k=7:=hk
     have hq:Xs pv true ns sub l=(ZcF l).bind fun nm l3=>(pv l3).bind fun v l4=> .ok (ns++[nm],sub.snoc v) (Z3 l4):=rfl
     refine Zp (by rw [hk7];rfl) ?_
     refine ZC (fun _ h'=>h'=h1∧∃ l1,Z3 l=34::l1) ?_ ?_
     ·rintro ⟨⟩ h2 ⟨rfl,l1,e1⟩
      rw [e1] at r1
      have hnm:ZcF l=(Zf8 l1).bind fun nm l2=>match Z3 l2 with
          | d::l3=>if d=58 then .ok nm l3 else .err 20 (d::l3)
          | []=> .err 24 []:=by unfold ZcF;rw [e1];rfl
      have bR:¬ b=R:=by omega
      refine ZP (rL (s:=y) (Zm c rfl) ?_)
      refine Zie r1 t1 hR (fun t r h3 htx r3 u3=>?_) fun e r h3 he u3=>herr e r h3 (by rw [hq,hnm,he];rfl) (uR (u1.trans u3))
      have c3:=Yq c u3 bR
      refine Xw (Zm c3 rfl) (ZbP fun h4 c4 e4 z4=>Xw (Zm (YK c3 e4) rfl) ?_)
      refine Zme c4 rfl ?_
      have ps3:=psR ps1 u3
      have old:∀ j,b≤j→j<sz h2→obj h4 j=obj h2 j:=fun j hj hl=>by
        have:=ZdF u3
        rw [Ym e4 (by omega),Yt u3 hl (by omega)]
      have s3:=ZdF u3
      have s4:sz h3≤sz h4:=e4.size
      refine Zoy ((old b (Nat.le_refl _) hb1).trans c) (ox.congr fun j _ hl hbj=>old j (by omega) hl) (oy.congr fun j _ hl hbj=>old j (by omega) hl)
        (lr.keep (fun j hj hl=>old j (by omega) hl) fun j hj=>⟨hj.1,by omega,hj.2.2⟩) ne hn fun h5 p5 u5=>?_
      have r5:Rd h5 R s r:=(r3.ext e4).upd u5 (by omega)
      refine Zaw r5 fun h6 r6 u6 z6=>?_
      have p6:=psR p5 u6
      have u16:Upd (UB R b) h h6:=(((uR u1).trans (uR u3)).trans (e4.upd _)).trans ((uB u5).trans (uR u6))
      refine ZC (fun _ h'=>h'=h6∧∃ l7,Z3 r=58::l7) ?_ ?_
      ·rintro ⟨⟩ h7 ⟨rfl,l7,e7⟩
       rw [e7] at r6
       refine X7 r6 fun h8 r8 u8 z8=>⟨l7,ns++[t],r8,psR p6 u8,tU ht (u16.trans (uR u8)),u16.trans (uR u8),?_⟩
       rw [hq,hnm,htx]
       simp only [Out.bind_ok,e7,↓reduceIte]
      ·refine Yu r6 (ZdW 58 (fun hne=>Xf (α:=BL) r6 rfl fun e' q he hq'=>herr e' q h6 ?_ u16) fun l7 e7=>⟨rfl,l7,e7⟩)
       rw [hq,hnm,htx]
       simp only [Out.bind_ok]
       cases hsk:Z3 r with
       | nil=>rw [hsk] at he;cases he;rfl
       | cons d l7 =>
         rw [hsk] at he hne
         simp only
         rw [if_neg (hne d l7 rfl)]
         cases he;rfl
     ·refine Yu r1 (ZdW 34 (fun hne=>Xf (α:=BL) r1 rfl fun e' q he hq'=>herr e' q h1 ?_ (uR u1)) fun l1 e1=>⟨rfl,l1,e1⟩)
      rw [hq]
      unfold ZcF
      cases hsk:Z3 l with
      | nil=>rw [hsk] at he;cases he;rfl
      | cons d l1 =>
        rw [hsk] at he hne
        simp only
        rw [if_neg (hne d l1 rfl)]
        cases he;rfl
theorem Zpr {pv:BL→Out JV} (hv:Js.Good false pv) (hs:St 1 pv) (ob:Bool) (c:UInt8) (l:BL):Zit pv ob (c::l)=(L pv ob [] .nil (Z3 l)).bind fun p r=> .ok ⟨if ob then 7 else 6,[],p.1,p.2⟩ r:=ZhF hv hs ob c l
theorem ZiE {l:JL}:l.isNil=true↔l.len=0:=by cases l<;>simp [JL.isNil,JL.len]
theorem PS.xlen {h:Zc} {b k:Nat} {ns:List BL} {sub:JL} (p:PS h b k ns sub) {K:Sl→Prop} (hk:∀ x:Sl,x.len=sub.len→K x):ldL h b (0+2) K:=by
  obtain ⟨x,y,cx,c,ox,oy,lr,ne⟩:=p
  exact rL (s:=x) (Zm c rfl) (hk x (by have:=ox.len;have:=lr.len;omega))
theorem Zk4 {f20:Zhd} {k e:Int} {h:Zc} {R:Nat} {s:ByteArray} {l:BL} (hr:Rd h R s l) {K:VT5→HP} {P:Value→HP} (herr:OnE h R s (· = R) (YS 23 l:Out JV) P):ZX f20 (At R) k e 64 K P h:=by
  unfold ZX Xe
  refine ZbP fun h1 c1 e1 z1=>ZC (fun _ _=>False) (fun _ _ h=>h.elim) (Zp (by decide) ?_)
  exact Xf (α:=JV) (hr.ext e1) rfl fun e' r he hr'=>herr e' r h1 he (e1.upd _)
theorem Zk3 {f20:Zhd} {pv:BL→Out JV} (hg:Js.Good false pv) (hst:St 1 pv) (h0:pv [] = .err 24 []) {deep:Nat} (hd:deep<64) (hf:Zh5 f20 pv ((deep+1:Nat):Int)) {ob:Bool} {h:Zc} {R:Nat} {s:ByteArray} {c0:UInt8} {l:BL} (hr:Rd h R s (c0::l)) (ht:Zaq h) (hR:9≤R)
    {k e:Int} (hk:k=if ob then 7 else 6) (he:e=(Zcc ob).toNat) {K:VT5→HP} {P:Value→HP}
    (hok:∀ v r z h',Zit pv ob (c0::l) = .ok v r→Rd h' R s r→Upd (· = R) h h'→Zbn h' (fun j=>sz h≤j∧j<sz h') z v→K z h') (herr:OnE h R s (· = R) (Zit pv ob (c0::l)) P):ZX f20 (At R) k e (deep:Int) K P h:=by
  unfold ZX Xe
  have hll:=hr.len
  have hRs:=hr.lt
  have hszr:sz h=h.size:=rfl
  rw [Zpr hg hst] at hok herr
  refine ZbP fun h1 c1 e1 z1=>?_
  refine ZC (fun _ h'=>h'=h1) ?_ (Zt (by simp;omega) rfl)
  rintro ⟨⟩ h2 rfl
  refine X7 (hr.ext e1) fun h3 r3 u3 z3=>ZbP fun h4 c4 e4 z4=>?_
  have hb3:sz h3=h3.size:=rfl
  have hb:h3.size=h.size+1:=by rw [← hb3,z3];exact z1
  have hRb:R<h3.size:=by omega
  rw [Zig (by rw [show obj h4 h3.size=_ from c4,Zbh];rfl) (by simp [ZW])]
  have hps:PS (h4.puts h3.size 0 [.int .u8 k,.string (ByteArray.mk #[]),.slice none 0 0,.slice none 0 0]) h3.size (if ob then 7 else 6) [] .nil:=by
    refine ⟨⟨none,0,0⟩,⟨none,0,0⟩,[],?_,Own.nil _ _ _,Own.nil _ _ _,rfl,fun j hj=>by cases hj⟩
    rw [Zad,if_pos rfl,show obj h4 h3.size=_ from c4,Y5,hk]
    cases ob<;>rfl
  have u5:=Upd.puts h4 h3.size 0 [.int .u8 k,.string (ByteArray.mk #[]),.slice none 0 0,.slice none 0 0]
  generalize h4.puts h3.size 0 [.int .u8 k,.string (ByteArray.mk #[]),.slice none 0 0,.slice none 0 0]=h5 at hps u5 ⊢
  have r5:Rd h5 R s l:=(r3.ext e4).upd u5 (by omega)
  have low:∀ {a:Zc},Upd (UB R h3.size) h3 a→Upd (· = R) h a:=fun {a} u=>UT (UN e1 u3) u fun j hj=>by
    rcases hj with rfl | hj
    ·exact .inl rfl
    ·right;omega
  have u35:Upd (UB R h3.size) h3 h5:=(e4.upd _).trans (u5.mono fun j _ hj=>by subst hj;exact .inr (Nat.le_refl _))
  have t5:Zaq h5:=ht.upd (low u35) fun j hj=>by subst hj;exact hR
  refine Zaw r5 fun h6 r6 u6 z6=>?_
  have p6:=hps.upd u6 fun j hj=>by subst hj;exact hRb
  have u36:Upd (UB R h3.size) h3 h6:=u35.trans (u6.mono fun j _ hj=> .inl hj)
  have t6:Zaq h6:=t5.upd u6 fun j hj=>by subst hj;exact hR
  have c1':∀ {a:Zc},Upd (UB R h3.size) h3 a→obj a h.size=some (.cells zV.toArray 33 (0,0)):=fun {a} u=>by
    have c3:obj h3 h.size=some (.cells zV.toArray 33 (0,0)):=Yq c1 u3 (by omega)
    exact Yq c3 u (by omega)
  have hsk:=Zbq l
  refine ZL (fun _ h'=>∃ (l':BL) (ns:List BL) (sub:JL),Rd h' R s l'∧PS h' h3.size (if ob then 7 else 6) ns sub∧Zaq h'∧L pv ob ns sub l'=L pv ob [] .nil (Z3 l)∧sub.len+l'.length≤65536∧ns.length≤sub.len∧Upd (UB R h3.size) h3 h') (fun _ h'=>left h' R)
    ⟨Z3 l,[],.nil,r6,p6,t6,rfl,by simp [JL.len] at hll ⊢;omega,Nat.le_refl _,u36⟩ ?_
  rintro ⟨⟩ h7 ⟨l7,ns,sub,r7,p7,t7,q7,n7,m7,u7⟩
  have tU:∀ {c:Zc},Upd (UB R h3.size) h7 c→Zaq c:=fun u=>t7.upd u fun j hj=>by rcases hj with rfl | hj<;>omega
  have er:∀ {e:Nat} {r:BL} {h':Zc},L pv ob ns sub l7 = .err e r→Upd (UB R h3.size) h7 h'→P (Zbp e (s.size - r.length)) h':=fun he u=>herr _ _ _ (by rw [← q7,he];rfl) (low (u7.trans u))
  have hLe:=ZpW hg hst h0 ob ns sub
  refine ZC (fun _ h'=>h'=h7∧Zcm (Zcc ob) l7=false) ?_ ?_
  ·rintro ⟨⟩ h8 ⟨rfl,hne⟩
   refine ZC (fun _ h'=>∃ l9,Rd h' R s l9∧PS h' h3.size (if ob then 7 else 6) ns sub∧Zaq h'∧Upd (UB R h3.size) h8 h'∧l9.length≤l7.length∧L pv ob ns sub l7=(Xs pv ob ns sub l9).bind fun p=>L pv ob p.1 p.2) ?_ ?_
   ·rintro ⟨⟩ h9 ⟨l9,r9,p9,t9,u9,hl9,q9⟩
    rw [Ys (by omega) (by omega)]
    refine Zmh (deep:=((deep+1:Nat):Int)) hf (ob:=ob) rfl r9 t9 hR hRb p9 (by omega) (by omega) (fun p r h10 hp r10 p10 u10=>?_) fun e' r h10 hp u10=>er (by rw [q9,hp];rfl) (u9.trans u10)
    have hpl:=(Zab hg hst ob ns sub).2.len hp
    have hpn:p.2.len=sub.len+1∧p.1.length≤ns.length+1:=by
      unfold Xs at hp
      split at hp
      ·obtain ⟨nm,l3,a1,a2⟩:=ZJ hp
       obtain ⟨v,l4,a3,a4⟩:=ZJ a2
       cases a4
       exact ⟨JL.len_snoc v sub,by simp⟩
      ·obtain ⟨v,l4,a3,a4⟩:=ZJ hp
       cases a4
       exact ⟨JL.len_snoc v sub,by simp⟩
    refine ⟨⟨r,p.1,p.2,r10,p10,tU (u9.trans u10),?_,by omega,by omega,u7.trans (u9.trans u10)⟩,?_⟩
    ·rw [← q7,q9,hp];rfl
    ·rw [r7.left,r10.left];omega
   ·refine p7.xlen fun x hx=>Zo (fun hgt=>?_) fun hle=>?_
    ·have hnil:sub.isNil=false:=by
       cases hs:sub.isNil with
       | false=>rfl
       | true=>have:=ZiE.1 hs;omega
     refine ZC (fun _ h'=>h'=h8∧∃ l9,l7=44::l9) ?_ ?_
     ·rintro ⟨⟩ h9 ⟨rfl,l9,rfl⟩
      refine X7 r7 fun h10 r10 u10 z10=>?_
      have u10':Upd (UB R h3.size) h9 h10:=u10.mono fun j _ hj=> .inl hj
      refine ⟨l9,r10,p7.upd u10 fun j hj=>by subst hj;exact hRb,tU u10',u10',by simp,?_⟩
      rw [hLe]
      show lF pv ob ns sub 44 (44::l9)=_
      unfold lF
      rw [if_neg (by cases ob<;>decide),if_neg (by simp [hnil]),if_pos rfl];rfl
     ·refine Yu r7 (ZdW 44 (fun hn=>Xf (α:=List BL × JL) r7 rfl fun e' q hq hq'=>er (h':=h8) ?_ (Upd.refl _ _)) fun l9 e9=>⟨rfl,l9,e9⟩)
      rw [hLe,← hq]
      rcases l7 with _ | ⟨c,l9⟩
      ·rfl
      ·show lF pv ob ns sub c (c::l9)=_
       have h44:=hn c l9 rfl
       have hend:c≠Zcc ob:=by simpa [Zcm] using hne
       unfold lF
       rw [if_neg hend,if_neg (by simp [hnil]),if_neg h44]
    ·have hnil:sub.isNil=true:=ZiE.2 (by omega)
     refine ⟨l7,r7,p7,t7,Upd.refl _ _,Nat.le_refl _,?_⟩
     rw [hLe]
     rcases l7 with _ | ⟨c,l9⟩
     ·show Out.err 24 []=_
      rw [ZhD h0];rfl
     ·show lF pv ob ns sub c (c::l9)=_
      have hend:c≠Zcc ob:=by simpa [Zcm] using hne
      unfold lF
      rw [if_neg hend,if_pos hnil]
  ·refine Zq2 r7 ?_
   have hend0:0<(Zcc ob).toNat:=by cases ob<;>decide
   refine ZdW (Zcc ob) (fun hn=>⟨rfl,?_⟩) (fun l9 e9=>?_) he hend0
   ·rcases l7 with _ | ⟨c,l9⟩
    ·rfl
    ·simp only [Zcm,beq_eq_false_iff_ne,ne_eq];exact hn c l9 rfl
   ·subst e9
    refine ZhA r7 (fun h=>by cases h) fun _=>X7 r7 fun h8 r8 u8 z8=>?_
    have u8':Upd (UB R h3.size) h7 h8:=u8.mono fun j _ hj=> .inl hj
    have p8:=p7.upd u8 fun j hj=>by subst hj;exact hRb
    have u38:=u7.trans u8'
    obtain ⟨x,y,cx,c,ox,oy,lr,ne⟩:=id p8
    refine rI (Zm c rfl) (rS (Zm c rfl) (rL (s:=x) (Zm c rfl) (rL (s:=y) (Zm c rfl) ?_)))
    refine Ze9 (x:=x) (y:=y) (c1' u38) rfl fun h9 u9 z9=>?_
    have hq:L pv ob [] .nil (Z3 l) = .ok (ns,sub) l9:=by
      rw [← q7,hLe]
      show lF pv ob ns sub (Zcc ob) (Zcc ob::l9)=_
      unfold lF
      rw [if_pos rfl];rfl
    have keep9:∀ j,h3.size≤j→j<sz h8→obj h9 j=obj h8 j:=fun j hj hl=>Yt u9 hl (by omega)
    refine hok ⟨if ob then 7 else 6,[],ns,sub⟩ l9 _ h9 (by rw [hq];rfl) (r8.upd u9 (by omega)) (UT (low u38) u9 fun j hj=>by right;omega) ?_
    have hs8:sz h3≤sz h8:=ZdF u38
    refine ⟨?_,rfl,?_,?_,cx,?_,?_,?_⟩
    ·cases ob<;>rfl
    ·exact (oy.congr fun j _ hl hbj=>keep9 j (by omega) hl).row
    ·intro _ j hj;have:=oy.lt hj;have h9s:sz h8=h8.size:=rfl;exact ⟨by omega,by omega⟩
    ·exact (ox.congr fun j _ hl hbj=>keep9 j (by omega) hl).row
    ·intro _ j hj;have:=ox.lt hj;have h9s:sz h8=h8.size:=rfl;exact ⟨by omega,by omega⟩
    ·exact lr.keep (fun j hj hl=>keep9 j (by omega) hl) fun j hj=>⟨by omega,by omega⟩
def opN:Nat→Bool→BL→Out JV
  | 0=>fun _ l=>YS 23 l
  | m+1=>Zit (ZI m)
theorem Zh9 (n:Nat):ZI n=Za4 (opN n):=by cases n<;>rfl
theorem ZnC (n:Nat) {l:BL} {c:UInt8} {l1:BL} (e:Z3 l=c::l1):ZI n l =
    if c=123 then opN n true (c::l1)
    else if c=91 then opN n false (c::l1)
    else if c=34 then (Zf8 l1).bind fun t r=> .ok ⟨5,t,[],.nil⟩ r
    else if c=110 then (Zbk [110,117,108,108] (c::l1)).bind fun _ r=> .ok ⟨1,[],[],.nil⟩ r
    else if c=102 then (Zbk [102,97,108,115,101] (c::l1)).bind fun _ r=> .ok ⟨2,[],[],.nil⟩ r
    else if c=116 then (Zbk [116,114,117,101] (c::l1)).bind fun _ r=> .ok ⟨3,[],[],.nil⟩ r
    else if c=45∨XD c then (Zc4 (c::l1)).bind fun _ r=> .ok ⟨4,Zf7 (c::l1) r,[],.nil⟩ r
    else .err 20 (c::l1):=by
  rw [Zh9]
  unfold Za4
  rw [e]
theorem Zbn.plain (h:Zc) (S:Nat→Prop) (k:Nat) (t:BL):Zbn h S ((k:Int),Zd t,⟨none,0,0⟩,⟨none,0,0⟩,()) ⟨k,t,[],.nil⟩ :=
  ⟨rfl,rfl,Row.nil _ _,fun h=>absurd rfl h,[],Row.nil _ _,fun h=>absurd rfl h,rfl⟩
theorem ZgX {c:UInt8} {l:BL} {n:Int} {K:Bool→Prop} (hk:K (decide ((c.toNat:Int)=n))):ZK (Xk (c::l) ==n) K:=by
  have:(Xk (c::l) ==n)=decide ((c.toNat:Int)=n):=by
    by_cases h:(c.toNat:Int)=n
    ·rw [decide_eq_true h];exact beq_iff_eq.2 h
    ·rw [decide_eq_false h];exact beq_eq_false_iff_ne.2 h
  rw [this];exact hk
def Znq (f20:Zhd) (n:Nat) (deep:Int):Prop:=∀ (ob:Bool) (k e:Int) (h:Zc) (R:Nat) (s:ByteArray) (c0:UInt8) (l:BL) (K:VT5→HP) (P:Value→HP),(k=if ob then 7 else 6)→e=(Zcc ob).toNat→Rd h R s (c0::l)→Zaq h→9≤R →
  (∀ v r z h',opN n ob (c0::l) = .ok v r→Rd h' R s r→Upd (· = R) h h'→Zbn h' (fun j=>sz h≤j∧j<sz h') z v→K z h')→OnE h R s (· = R) (opN n ob (c0::l)) P→ZX f20 (At R) k e deep K P h
theorem Zgs {f20:Zhd} {n:Nat} {deep:Int} (hp:Znq f20 n deep):Zh5 (Y8 f20) (ZI n) deep:=by
  intro h R s l K P hr ht hR hok herr
  unfold Y8 X0
  have hRs:=hr.lt
  have hszr:sz h=h.size:=rfl
  refine ZbP fun h1 c1 e1 z1=>?_
  refine Zaw (hr.ext e1) fun h2 r2 u2 z2=>?_
  have ht2:Zaq h2:=(ht.ext e1).upd u2 fun j hj=>by subst hj;exact hR
  have hb2:sz h2=h.size+1:=by rw [z2];exact z1
  have low:∀ {a:Zc},Upd (· = R) h2 a→Upd (· = R) h a:=fun u=>UN e1 (u2.trans u)
  have cb:∀ {a:Zc},Upd (· = R) h2 a→obj a h.size=some (.cells zV.toArray 33 (0,0)):=fun u=>Yq c1 (u2.trans u) (by omega)
  have fin:∀ {v:JV} {r:BL} {z:VT5} {h4:Zc},ZI n l = .ok v r→Rd h4 R s r→Upd (· = R) h2 h4→Zbn h4 (fun j=>sz h2≤j∧j<sz h4) z v →
      sts h4 h.size 0 [.int .u8 z.1,.string z.2.1,.slice z.2.2.1.ptr z.2.2.1.len z.2.2.1.cap,.slice z.2.2.2.1.ptr z.2.2.2.1.len z.2.2.2.1.cap] fun h83 =>
        ldI h83 h.size 0 .u8 fun t84=>ldS h83 h.size (0+1) fun t85=>ldL h83 h.size (0+2) fun t86=>ldL h83 h.size (0+3) fun t87=>K (t84,t85,t86,t87,()) h83:=fun {v r z h4} hv r4 u4 v4=>by
    refine Ze9 (x:=z.2.2.1) (y:=z.2.2.2.1) (cb u4) rfl fun h5 u5 z5=>?_
    have s4:=ZdF u4
    exact hok v r z h5 hv (r4.upd u5 (by omega)) (UT (low u4) u5 fun j hj=>by right;omega) (v4.keep (fun j hj hl=>Yt u5 hl (by omega)) fun j hj=>⟨by omega,by omega⟩)
  have er:∀ {e:Nat} {r:BL} {h':Zc},ZI n l = .err e r→Upd (· = R) h2 h'→P (Zbp e (s.size - r.length)) h':=fun he u=>herr _ _ _ he (low u)
  refine ZC (fun _ h'=>h'=h2∧∃ c l1,Z3 l=c::l1∧ZI n l = .err 20 (c::l1)) ?_ ?_
  ·rintro ⟨⟩ h3 ⟨rfl,c,l1,e3,hv⟩
   refine Xf (α:=JV) r2 rfl fun e' r he hr'=>er ?_ (Upd.refl _ _)
   rw [hv,← he,e3];rfl
  ·refine Yu r2 (Za (Zdb r2 fun p hp'=>ZjW r2 (Zg ?_)))
   have hlen:=hp'.len
   cases hsk:Z3 l with
   | nil =>
     rw [hsk] at r2 hlen
     refine Zp (by simp at hlen ⊢;omega) (Xf (α:=JV) r2 rfl fun e' r he hr'=>er ?_ (Upd.refl _ _))
     rw [Zh9]
     unfold Za4
     rw [hsk,← he];rfl
   | cons c l1 =>
     have hq:=ZnC n hsk
     rw [hsk] at r2 hlen
     refine Zt (by simp at hlen ⊢;omega) ?_
     refine ZgX (Zo (fun h123=>?_) fun h123=>ZgX (Zo (fun h91=>?_) fun h91=>ZgX (Zo (fun h34=>?_) fun h34=>ZgX (Zo (fun h110=>?_) fun h110=>ZgX (Zo (fun h102=>?_) fun h102=>ZgX (Zo (fun h116=>?_) fun h116=>?_))))))
     ·rw [if_pos (ZdG (d:=123) h123)] at hq
      exact hp true 7 125 h2 R s c l1 _ P rfl rfl r2 ht2 hR (fun v r z h4 hv r4 u4 v4=>fin (hq.trans hv) r4 u4 v4) fun e r h4 he u4=>er (hq.trans he) u4
     all_goals rw [if_neg (Zd7 (d:=123) h123)] at hq
     ·rw [if_pos (ZdG (d:=91) h91)] at hq
      exact hp false 6 93 h2 R s c l1 _ P rfl rfl r2 ht2 hR (fun v r z h4 hv r4 u4 v4=>fin (hq.trans hv) r4 u4 v4) fun e r h4 he u4=>er (hq.trans he) u4
     all_goals rw [if_neg (Zd7 (d:=91) h91)] at hq
     ·rw [if_pos (ZdG (d:=34) h34)] at hq
      refine Zie r2 ht2 hR (fun t r h4 hv r4 u4=>?_) fun e r h4 he u4=>er (by rw [hq,he];rfl) u4
      exact fin (z:=(5,Zd t,⟨none,0,0⟩,⟨none,0,0⟩,())) (v:=⟨5,t,[],.nil⟩) (by rw [hq,hv];rfl) r4 u4 (Zbn.plain _ _ 5 t)
     all_goals rw [if_neg (Zd7 (d:=34) h34)] at hq
     ·rw [if_pos (ZdG (d:=110) h110)] at hq
      refine Ze2 r2 (wl:=[110,117,108,108]) rfl (by decide) (fun r h4 hv r4 u4=>?_) fun e r h4 he u4=>er (by rw [hq,he];rfl) u4
      exact fin (v:=⟨1,[],[],.nil⟩) (by rw [hq,hv];rfl) r4 u4 (Zbn.plain _ _ 1 [])
     all_goals rw [if_neg (Zd7 (d:=110) h110)] at hq
     ·rw [if_pos (ZdG (d:=102) h102)] at hq
      refine Ze2 r2 (wl:=[102,97,108,115,101]) rfl (by decide) (fun r h4 hv r4 u4=>?_) fun e r h4 he u4=>er (by rw [hq,he];rfl) u4
      exact fin (v:=⟨2,[],[],.nil⟩) (by rw [hq,hv];rfl) r4 u4 (Zbn.plain _ _ 2 [])
     all_goals rw [if_neg (Zd7 (d:=102) h102)] at hq
     ·rw [if_pos (ZdG (d:=116) h116)] at hq
      refine Ze2 r2 (wl:=[116,114,117,101]) rfl (by decide) (fun r h4 hv r4 u4=>?_) fun e r h4 he u4=>er (by rw [hq,he];rfl) u4
      exact fin (v:=⟨3,[],[],.nil⟩) (by rw [hq,hv];rfl) r4 u4 (Zbn.plain _ _ 3 [])
     rw [if_neg (Zd7 (d:=116) h116)] at hq
     have num:(c=45∨XD c=true)→∀ (Kp:VT5→HP),(∀ z h',Kp z h'=sts h' h.size 0 [.int .u8 z.1,.string z.2.1,.slice z.2.2.1.ptr z.2.2.1.len z.2.2.1.cap,.slice z.2.2.2.1.ptr z.2.2.2.1.len z.2.2.2.1.cap] fun h83 =>
       ldI h83 h.size 0 .u8 fun t84=>ldS h83 h.size (0+1) fun t85=>ldL h83 h.size (0+2) fun t86=>ldL h83 h.size (0+3) fun t87=>K (t84,t85,t86,t87,()) h83)→Yi (At R) Kp P h2:=fun hc Kp hK=>by
       rw [if_pos hc] at hq
       refine Zjj r2 (fun r h4 hv r4 u4=>?_) fun e r h4 he u4=>er (by rw [hq,he];rfl) u4
       rw [hK]
       exact fin (z:=(4,Zd (Zf7 (c::l1) r),⟨none,0,0⟩,⟨none,0,0⟩,())) (v:=⟨4,Zf7 (c::l1) r,[],.nil⟩) (by rw [hq,hv];rfl) r4 u4 (Zbn.plain _ _ 4 _)
     have bad:¬ (c=45∨XD c=true)→ZI n l = .err 20 (c::l1):=fun hc=>by rw [if_neg hc] at hq;exact hq
     have hz:Xk (c::l1)=(c.toNat:Int):=rfl
     rw [hz]
     refine Xn (fun h45=>num (.inl (ZdG (d:=45) h45)) _ fun _ _=>rfl) fun h45=>?_
     have n45:c≠45:=Zd7 (d:=45) h45
     refine Zo (fun h48=>Zg (Zo (fun h57=>num (.inr (ZaM.2 (by omega))) _ fun _ _=>rfl) fun h57=>?_)) fun h48=>?_
     ·exact ⟨rfl,c,l1,rfl,bad fun hc=>hc.elim n45 fun hd=>by have:=ZaM.1 hd;omega⟩
     ·exact ⟨rfl,c,l1,rfl,bad fun hc=>hc.elim n45 fun hd=>by have:=ZaM.1 hd;omega⟩
theorem Zgt:∀ n:Nat,n≤64→Zh5 (Z9 (n+1)) (ZI n) ((64 - n:Nat):Int)
  | 0,_=>Zgs (f20:=Z9 0) (n:=0) fun ob k e h R s c0 l K P hk he hr ht hR hok herr=>Zk4 hr herr
  | n+1,hn=>Zgs (f20:=Z9 (n+1)) (n:=n+1) fun ob k e h R s c0 l K P hk he hr ht hR hok herr=>by
    refine Zk3 (YM n).1 (YM n).2 (ZdD n) (deep:=64 - (n+1)) (by omega) ?_ hr ht hR hk he hok herr
    have:=Zgt n (by omega)
    rw [show 64 - (n+1)+1=64 - n by omega]
    exact this
theorem ZnI {h:Zc} {b o:Nat} {vs:List Value} {K:Zc→Prop} {l:List Value} {e:TypeId} (hb:obj h b=some (.cells l.toArray e (0,0))) (ho:o+vs.length≤l.length) (hv:vs.all ZW=true)
    (hk:∀ h',obj h' b=some (.cells (YW o vs l).toArray e (0,0))→Upd (· = b) h h'→sz h'=sz h→K h'):sts h b o vs K:=by
  rw [Zig (by rw [hb,Zbh];simpa using ho) hv]
  exact hk _ (by rw [Zad,if_pos rfl,hb,Y5]) (Upd.puts h b o vs) Zct
def zJ:JV:=⟨0,[],[],.nil⟩
structure Res (h:Zc) (b b2 b4:Nat) (z:VT5) (e n:Int):Prop where
  v:obj h b=some (.cells (XE z).toArray 33 (0,0))
  e:obj h b2=some (.cells [.int .i64 e].toArray 37 (0,0))
  n:obj h b4=some (.cells [.int .i64 n].toArray 3 (0,0))
theorem Zhz {h:Zc} {b b2 b4:Nat} {z:VT5} {e n:Int} (hr:Res h b b2 b4 z e n) {K:VT5→Int→Int→HP} (hk:K z e n h):Zc5 b b2 b4 K h :=
  rI (Zm hr.v rfl) (rS (Zm hr.v rfl) (rL (s:=z.2.2.1) (Zm hr.v rfl) (rL (s:=z.2.2.2.1) (Zm hr.v rfl) (rI (Zm hr.e rfl) (rI (Zm hr.n rfl) hk)))))
theorem Zgh {h:Zc} {b b2 b4:Nat} {z0:VT5} {e0 n0:Int} (hr:Res h b b2 b4 z0 e0 n0) (h12:b≠b2) (h14:b≠b4) (h24:b2≠b4) {e n:Nat} {K:VT5→Int→Int→HP}
    (hk:∀ h',Upd (fun j=>j=b∨j=b2∨j=b4) h h'→K (0,Zd [],⟨none,0,0⟩,⟨none,0,0⟩,()) e n h'):XT b b2 b4 K (Zbp e n) h:=by
  have lb:=ZaQ hr.v
  have lb2:=ZaQ hr.e
  have lb4:=ZaQ hr.n
  refine ⟨e,n,rfl,.inr ⟨_,_,rfl,Za0 (ZbL ?_)⟩⟩
  refine ZbP fun h2 c2 e2 z2=>ZnI c2 (by simp) (by simp [ZW]) fun h3 c3 u3 z3=>?_
  have c3':obj h3 h.size=some (.cells [.int .i64 e,.int .i64 n].toArray 160 (0,0)):=c3
  have hs:sz h=h.size:=rfl
  have hb3:obj h3 b=some (.cells (XE z0).toArray 33 (0,0)):=Yq (YK hr.v e2) u3 (by omega)
  have hb23:obj h3 b2=some (.cells [.int .i64 e0].toArray 37 (0,0)):=Yq (YK hr.e e2) u3 (by omega)
  have hb43:obj h3 b4=some (.cells [.int .i64 n0].toArray 3 (0,0)):=Yq (YK hr.n e2) u3 (by omega)
  refine rI (Zm c3' rfl) (rI (Zm c3' rfl) (ZP (ZnI hb3 (by simp [XE]) (by simp [ZW]) fun h6 c6 u6 z6=>?_)))
  have w6:=Yq c3' u6 (show ¬ h.size=b by omega)
  refine Xw (Zm w6 rfl) (Xw (Zm w6 rfl) (ZP (ZjZ (Yq hb23 u6 (Ne.symm h12)) (by simp) Zby fun h9 c9 u9 z9=>?_)))
  have w9:=Yq w6 u9 (show ¬ h.size=b2 by omega)
  refine Xw (Zm w9 rfl) (ZP (ZjZ (Yq (Yq hb43 u6 (Ne.symm h14)) u9 (Ne.symm h24)) (by simp) Zby fun h10 c10 u10 z10=>?_))
  have u:Upd (fun j=>j=b∨j=b2∨j=b4) h h10:=by
    refine UT (UT (UT (UT (e2.upd _) u3 fun j hj=> .inr (by omega)) u6 fun j hj=> .inl (.inl hj)) u9 fun j hj=> .inl (.inr (.inl hj))) u10 fun j hj=> .inl (.inr (.inr hj))
  refine Zhz ⟨Yq (Yq c6 u9 h12) u10 h14,Yq c9 u10 h24,c10⟩ (hk h10 u)
def ZjI (h:Zc) (S:Nat→Prop) (g:Got) (z:VT5) (e n:Int):Prop:=match g with
  | .ok v=>Zbn h S z v∧e=0∧n=0
  | .err e' k=>Zbn h S z zJ∧e=e'∧n=k
theorem ZgM {h:Zc} {s:ByteArray} (ht:Zaq h) (hh:9≤sz h) {K:VT5→Int→Int→HP}
    (hk:∀ z e n h',Ext h h'→ZjI h' (fun j=>sz h≤j∧j<sz h') (Xm s.data.toList) z e n→K z e n h'):Yj s K h:=by
  unfold Yj
  have hs0:sz h=h.size:=rfl
  refine ZbP fun h1 c1 e1 z1=>ZbP fun h3 c3 e3 z3=>ZbP fun h5 c5 e5 z5=>?_
  have hs1:sz h1=h1.size:=rfl
  have hs3:sz h3=h3.size:=rfl
  have hs5:sz h5=h5.size:=rfl
  have hz:XE (0,Zd [],⟨none,0,0⟩,⟨none,0,0⟩,())=zV:=rfl
  have v5:Res h5 h.size h1.size h3.size (0,Zd [],⟨none,0,0⟩,⟨none,0,0⟩,()) 0 0:=⟨YK (YK c1 e3) e5,YK c3 e5,c5⟩
  have e05:Ext h h5:=(e1.trans e3).trans e5
  have low:∀ {S:Nat→Prop} {a:Zc},Upd S h5 a→(∀ j,S j→sz h≤j)→Ext h a:=fun u hS=>e05.updS u hS
  have hlen:s.data.toList.length=s.size:=by simp
  refine Zo (fun hlong=>?_) fun hshort=>?_
  ·refine ZnI v5.v (by simp [XE]) (by simp [ZW]) fun h6 c6 u6 z6=>?_
   refine ZjZ (Yq v5.e u6 (show ¬ h1.size=h.size by omega)) (by simp) Zby fun h7 c7 u7 z7=>?_
   refine ZjZ (Yq (Yq v5.n u6 (show ¬ h3.size=h.size by omega)) u7 (show ¬ h3.size=h1.size by omega)) (by simp) Zby fun h8 c8 u8 z8=>?_
   refine Zhz (z:=(0,Zd [],⟨none,0,0⟩,⟨none,0,0⟩,())) ⟨Yq (Yq c6 u7 (show ¬ h.size=h1.size by omega)) u8 (show ¬ h.size=h3.size by omega),Yq c7 u8 (show ¬ h1.size=h3.size by omega),c8⟩ (hk _ _ _ h8 ?_ ?_)
   ·refine low (S:=fun j=>sz h≤j) (UT (UT (u6.mono fun j _ hj=>by subst hj;omega) u7 fun j hj=> .inl (by omega)) u8 fun j hj=> .inl (by omega)) fun j hj=>hj
   ·rw [Zei (by omega)]
    exact ⟨Zbn.plain _ _ 0 [],rfl,rfl⟩
  ·have hs:s.size≤65536:=by omega
   refine ZbP fun h15 c15 e15 z15=>?_
   have r15:Rd h15 h5.size s s.data.toList:=⟨hs,0,c15,ZeV.start s⟩
   have t15:Zaq h15:=ht.ext (e05.trans e15)
   have pp:=ZbX (l:=s.data.toList) (by omega)
   have recov:∀ {a:Zc} {z0:VT5} {e0 n0:Int} {e n:Nat},Res a h.size h1.size h3.size z0 e0 n0→Ext h a→Xm s.data.toList = .err e n→XT h.size h1.size h3.size K (Zbp e n) a:=fun {a z0 e0 n0 e n} hr ea hp=>by
     refine Zgh hr (by omega) (by omega) (by omega) fun h' u=>hk _ _ _ h' (ea.updS u fun j hj=>by omega) ?_
     rw [hp]
     exact ⟨Zbn.plain _ _ 0 [],rfl,rfl⟩
   have v15:Res h15 h.size h1.size h3.size (0,Zd [],⟨none,0,0⟩,⟨none,0,0⟩,()) 0 0:=⟨YK v5.v e15,YK v5.e e15,YK v5.n e15⟩
   have resU:∀ {S:Nat→Prop} {a c:Zc} {z:VT5} {e n:Int},Res a h.size h1.size h3.size z e n→Upd S a c→(∀ j,S j→h5.size≤j)→Res c h.size h1.size h3.size z e n:=fun r u hS =>
     ⟨Yq r.v u fun h9=>by have:=hS _ h9;omega,Yq r.e u fun h9=>by have:=hS _ h9;omega,Yq r.n u fun h9=>by have:=hS _ h9;omega⟩
   have hR9:∀ j,j=h5.size→h5.size≤j:=fun j hj=>by omega
   refine ⟨65,?_⟩
   refine Zgt 64 (Nat.le_refl _) h15 h5.size s _ _ _ r15 t15 (by omega) (fun v r z h17 hv r17 u17 v17=>?_) fun e r h17 he u17=>?_
   ·have w17:=resU v15 u17 hR9
    refine ZnI w17.v (by simp [XE]) (Zcp z) fun h18 c18 u18 z18=>?_
    have c18':obj h18 h.size=some (.cells (XE z).toArray 33 (0,0)):=c18
    have hs15:sz h15=sz h5+1:=z15
    have v18:Zbn h18 (fun j=>sz h15≤j∧j<sz h18) z v:=v17.keep (fun j hj hl=>Yt u18 hl (by omega)) fun j hj=>⟨hj.1,by omega⟩
    have e18:Ext h h18:=((e05.trans e15).updS u17 fun j hj=>by subst hj;omega).updS u18 fun j hj=>by omega
    have w18:Res h18 h.size h1.size h3.size z 0 0:=⟨c18',Yq w17.e u18 (by omega),Yq w17.n u18 (by omega)⟩
    refine Zaw (r17.upd u18 (by omega)) fun h19 r19 u19 z19=>?_
    have w19:=resU w18 u19 hR9
    have e19:Ext h h19:=e18.updS u19 fun j hj=>by subst hj;omega
    have v19:Zbn h19 (fun j=>sz h15≤j∧j<sz h19) z v:=v18.keep (fun j hj hl=>Yt u19 hl (by omega)) fun j hj=>⟨hj.1,by omega⟩
    obtain ⟨_,p,cp,gp⟩:=id r19
    have hpl:=gp.len
    rw [hv] at pp
    simp only at pp
    refine rI (Zm cp rfl) (Zo (fun hlt=>rI (Zm cp rfl) ?_) fun hge=>?_)
    ·cases hsk:Z3 r with
     | nil=>rw [hsk] at hpl;simp at hpl;omega
     | cons c r' =>
       rw [hsk] at pp r19 hpl
       simp only at pp
       refine Zkl r19 hlt ?_
       have:=recov w19 e19 pp
       unfold Zbp at this
       have hnum:((s.data.toList.length - (c::r').length:Nat):Int)=(p:Int):=by omega
       rw [hnum] at this
       exact this
    ·have hsk:Z3 r=[]:=List.eq_nil_of_length_eq_zero (by omega)
     rw [hsk] at pp
     simp only at pp
     unfold Zdu
     refine rI (Zm w19.v rfl) (rS (Zm w19.v rfl) (rL (s:=z.2.2.1) (Zm w19.v rfl) (rL (s:=z.2.2.2.1) (Zm w19.v rfl) ?_)))
     refine ZnI w19.v (by simp [XE]) (Zcp z) fun h20 c20 u20 z20=>?_
     have c20':obj h20 h.size=some (.cells (XE z).toArray 33 (0,0)):=c20
     refine ZjZ (Yq w19.e u20 (show ¬ h1.size=h.size by omega)) (by simp) Zby fun h21 c21 u21 z21=>?_
     refine ZjZ (Yq (Yq w19.n u20 (show ¬ h3.size=h.size by omega)) u21 (show ¬ h3.size=h1.size by omega)) (by simp) Zby fun h22 c22 u22 z22=>?_
     refine Zhz ⟨Yq (Yq c20' u21 (show ¬ h.size=h1.size by omega)) u22 (show ¬ h.size=h3.size by omega),Yq c21 u22 (show ¬ h1.size=h3.size by omega),c22⟩ (hk _ _ _ h22 ?_ ?_)
     ·exact ((e19.updS u20 fun j hj=>by omega).updS u21 fun j hj=>by omega).updS u22 fun j hj=>by omega
     ·rw [pp]
      have u:Upd (fun j=>j<h5.size) h19 h22:=((u20.mono fun j _ hj=>by omega).trans (u21.mono fun j _ hj=>by omega)).trans (u22.mono fun j _ hj=>by omega)
      exact ⟨v19.keep (fun j hj hl=>Yt u hl (by omega)) fun j hj=>⟨by omega,by have:=ZdF u;omega⟩,rfl,rfl⟩
   ·have w17:=resU v15 u17 hR9
    have e17:Ext h h17:=(e05.trans e15).updS u17 fun j hj=>by subst hj;omega
    rw [he] at pp
    simp only at pp
    rw [hlen] at pp
    exact recov w17 e17 pp
section
variable {h:Zc} {R e:Nat} {s:ByteArray} {l:BL}
end
section
variable {h:Zc} {R:Nat} {s:ByteArray} {l:BL}
end
section
variable {h:Zc} {R:Nat} {s:ByteArray} {l:BL}
end
section
variable {h:Zc} {R:Nat} {s:ByteArray} {l:BL}
end
section
variable {h:Zc} {R:Nat} {s:ByteArray} {l:BL}
end
theorem Zvf {c:UInt8} {n:Int} (d:UInt8) (hn:n=(d.toNat:Int)) {A B:Prop} (ha:c=d→A) (hb:c≠d→B):ZD (((c.toNat:Nat):Int) ==n) A B:=by
  subst hn
  exact Xn (fun e=>ha (ZdG e)) fun e=>hb (Zd7 e)
end Go.Proofs.YtpjbjdheeemdiaaGreatDoor
namespace Go.Js
open Go
namespace JL
def drop:Nat→JL→JL
  | 0,l=>l
  | _+1,nil=>nil
  | n+1,cons _ _ _ _ r=>r.drop n
def hei:JL→Nat
  | nil=>0
  | cons _ _ _ s r=>max (s.hei+1) r.hei
theorem drop_len:∀ (n:Nat) (l:JL),(l.drop n).len=l.len - n
  | 0,l=>rfl
  | n+1,nil=>by simp [drop,len]
  | n+1,cons _ _ _ _ r=>by simp only [drop,len,drop_len n r];omega
theorem drop_succ:∀ (n:Nat) (l:JL) {k:Nat} {t:BL} {ns:List BL} {s r:JL},l.drop n=cons k t ns s r→l.drop (n+1)=r
  | 0,l,_,_,_,_,_,h=>by rw [show l=_ from h];rfl
  | n+1,nil,_,_,_,_,_,h=>by cases h
  | n+1,cons _ _ _ _ r,_,_,_,_,_,h=>drop_succ n r h
theorem drop_cons {n:Nat} {l:JL} (h:n<l.len):∃ k t ns s r,l.drop n=cons k t ns s r:=by
  have:=drop_len n l
  cases hd:l.drop n with
  | nil=>rw [hd] at this;simp [len] at this;omega
  | cons k t ns s r=>exact ⟨k,t,ns,s,r,rfl⟩
theorem drop_nil {n:Nat} {l:JL} (h:l.len≤n):l.drop n=nil:=by
  have:=drop_len n l
  exact len_nil.1 (by omega)
theorem drop_hei:∀ (n:Nat) (l:JL) {k:Nat} {t:BL} {ns:List BL} {s r:JL},l.drop n=cons k t ns s r→s.hei+1≤l.hei
  | 0,l,_,_,_,_,_,h=>by rw [show l=_ from h];simp only [hei];omega
  | n+1,nil,_,_,_,_,_,h=>by cases h
  | n+1,cons _ _ _ _ r,_,_,_,_,_,h=>by have:=drop_hei n r h;simp only [hei];omega
end JL
end Go.Js
namespace Go.Proofs.YtpjbjdheeemdiaaGreatDoor
open Go Go.Fw Go.Js
theorem X4.drop {h:Zc} {S:Nat→Prop}:∀ (n:Nat) {l:JL} {vs:List Value},X4 h S l vs→X4 h S (l.drop n) (vs.drop (n*4))
  | 0,l,vs,h=>by simpa [JL.drop] using h
  | n+1,.nil,vs,h=>by rw [show vs=[] from h];simp [JL.drop,X4]
  | n+1,.cons k t ns s r,vs,h=>by
    obtain ⟨x,y,cx,vs',e,a,b,c,d,f,g⟩:=h
    have:=X4.drop n g
    rw [e]
    show X4 _ _ (r.drop n) _
    have e2:(XE ((k:Int),Zd t,x,y,())++vs').drop ((n+1)*4)=vs'.drop (n*4):=by
      rw [List.drop_append,show (XE ((k:Int),Zd t,x,y,())).length=4 from rfl,List.drop_of_length_le (by show 4≤_;omega),List.nil_append]
      congr 1
      omega
    rw [e2];exact this
theorem Zfx {h:Zc} {S:Nat→Prop} {l:JL} {vs:List Value} {x:Sl} (hr:Row h x 4 vs) (hl:X4 h S l vs) {i:Nat} {k:Nat} {t:BL} {ns:List BL} {s r:JL} (hd:l.drop i = .cons k t ns s r) {n:Int} (hn:n=i) {K:Int→ByteArray→Sl→Sl→Prop}
    (hk:∀ z:VT5,Zbn h S z ⟨k,t,ns,s⟩→K z.1 z.2.1 z.2.2.1 z.2.2.2.1):ZgU x.ptr x.len n 4 fun b o=>ldI h b o .u8 fun t1=>ldS h b (o+1) fun t2=>ldL h b (o+2) fun t3=>ldL h b (o+3) fun t4=>K t1 t2 t3 t4:=by
  subst hn
  have hlen:=hl.len
  have hxl:=hr.len
  have hi:i<l.len:=by
    have:=JL.drop_len i l
    rw [hd] at this
    simp [JL.len] at this
    omega
  have hL:=X4.drop i hl
  rw [hd] at hL
  obtain ⟨sx,sy,cx,vs',e,a,b,c,d,f,g⟩:=hL
  rcases hr.at_ with h0 | ⟨bb,o,hp,hh⟩
  ·omega
  ·rw [hp]
   have get:∀ j v,(XE ((k:Int),Zd t,sx,sy,()))[j]?=some v→h.cell bb (o+i*4+j)=some v:=fun j v hv=>by
     have h1:vs[i*4+j]?=some v:=by
       rw [← List.getElem?_drop,e,List.getElem?_append_left]
       ·exact hv
       ·rcases Nat.lt_or_ge j (XE ((k:Int),Zd t,sx,sy,())).length with h | h
        ·exact h
        ·rw [List.getElem?_eq_none h] at hv;cases hv
     have:=ZhQ hh h1
     rw [Nat.add_assoc];exact this
   have gc:∀ j v,(XE ((k:Int),Zd t,sx,sy,()))[j]?=some v→Xj (o+i*4+j) (obj h bb)=some v:=fun j v hv=>by rw [← XU];exact get j v hv
   refine Zjt (n:=i) rfl (by omega) (rI (gc 0 _ rfl) (rS (gc 1 _ rfl) (rL (s:=sx) (gc 2 _ rfl) (rL (s:=sy) (gc 3 _ rfl) (hk ((k:Int),Zd t,sx,sy,()) ⟨rfl,rfl,a,b,cx,c,d,f⟩)))))
theorem ZhI {h:Zc} {ns:List BL} {x:Sl} (hr:Row h x 1 (ns.map sV)) {i:Nat} {t:BL} (ht:ns[i]?=some t) {n:Int} (hn:n=i) {K:ByteArray→Prop} (hk:K (Zd t)):ZgU x.ptr x.len n 1 fun b o=>ldS h b o K :=
  Row.idx hr hn (v:=sV t) (by simp [ht]) fun b o _ hc=>⟨_,hc,hk⟩
theorem ZdU {h:Zc} {ns:List BL} {x:Sl} (hr:Row h x 1 (ns.map sV)):x.len=ns.length:=by have:=hr.len;simp at this;omega
theorem Znb {a b:BL}:Zd a=Zd b↔a=b:=by
  constructor
  ·intro h
   have:=congrArg (fun b:ByteArray=>b.data.toList) h
   simpa [Zd] using this
  ·rintro rfl;rfl
theorem Xq (a b:BL):ZaK (Zd a) (Zd b)=decide (a=b):=by
  rw [Zih]
  exact decide_eq_decide.2 Znb
theorem Zgb {h:Zc} {na nb:List BL} {a b:Sl} (ha:Row h a 1 (na.map sV)) (hb:Row h b 1 (nb.map sV)) {K:Bool→HP} (hk:K (decide (na=nb)) h):Yb a b K h:=by
  unfold Yb Xd
  have la:=ZdU ha
  have lb:=ZdU hb
  have biga:=ha.big
  have capa:=ha.cap
  refine Zbu (fun hne=>?_) fun heq=>Za ?_
  ·rw [decide_eq_false fun e=>hne (by rw [la,lb,e])] at hk;exact hk
  ·refine ZL (fun p h'=>h'=h∧∃ i:Nat,p.1=i∧i≤na.length∧na.take i=nb.take i) (fun p _=>(a.len - p.1).toNat) ⟨rfl,0,rfl,Nat.zero_le _,rfl⟩ ?_
   rintro ⟨i1,u⟩ h2 ⟨rfl,i,hi,hle,ht⟩
   dsimp only at hi ⊢
   subst hi
   refine Zo (fun hlt=>?_) fun hge=>?_
   ·have hia:i<na.length:=by omega
    have hib:i<nb.length:=by omega
    refine ZhI ha (List.getElem?_eq_getElem hia) rfl (ZhI hb (List.getElem?_eq_getElem hib) rfl ?_)
    rw [Xq]
    by_cases he:na[i]=nb[i]
    ·rw [decide_eq_true he]
     refine Zt rfl (Za ?_)
     rw [Ys (by omega) (by omega)]
     refine ⟨⟨rfl,i+1,rfl,by omega,?_⟩,by omega⟩
     rw [List.take_add_one,List.take_add_one,List.getElem?_eq_getElem hia,List.getElem?_eq_getElem hib,ht,he]
    ·rw [decide_eq_false he]
     refine Zp rfl ?_
     rw [decide_eq_false fun e=>he (by subst e;rfl)] at hk
     exact hk
   ·rw [List.take_of_length_le (by omega),List.take_of_length_le (by omega)] at ht
    rw [decide_eq_true ht] at hk;exact hk
theorem Zsx {v w:JV}:v=w↔v.k=w.k∧v.t=w.t∧v.ns=w.ns∧v.sub=w.sub:=by
  constructor
  ·rintro rfl;exact ⟨rfl,rfl,rfl,rfl⟩
  ·rcases v with ⟨a,b,c,d⟩;rcases w with ⟨a',b',c',d'⟩
   rintro ⟨h1,h2,h3,h4⟩
   simp only at h1 h2 h3 h4
   subst h1 h2 h3 h4;rfl
theorem Zbn.ext {h h':Zc} {S:Nat→Prop} {z:VT5} {v:JV} (hv:Zbn h S z v) (hS:∀ j,S j→j<sz h) (u:Ext h h'):Zbn h' S z v:=hv.keep (fun j hj _=>Ym u (hS j hj)) fun j hj=>hj
theorem Zl6:∀ (n:Nat) {h:Zc} {a b:VT5} {v w:JV} {S S':Nat→Prop} {K:Bool→HP},v.sub.hei≤n→Zbn h S a v→Zbn h S' b w→(∀ j,S j→j<sz h)→(∀ j,S' j→j<sz h)→(∀ h',Ext h h'→K (decide (v=w)) h')→Z5 (n+1) a b K h:=by
  intro n
  induction n with
  | zero=>?_
  | succ n ih=>?_
  all_goals intro h a b v w S S' K hn va vb hS hS' hk
  all_goals unfold Z5 Y6 Xc
  all_goals obtain ⟨a1,a2,a3,a4,cxa,a5,a6,a7⟩:=va
  all_goals obtain ⟨b1,b2,b3,b4,cxb,b5,b6,b7⟩:=vb
  all_goals refine ZbP fun h1 c1 e1 z1=>ZbP fun h2 c2 e2 z2=>?_
  all_goals have e02:=e1.trans e2
  all_goals have c1':obj h2 h.size=some (.cells (XE a).toArray 33 (0,0)):=YK c1 e2
  all_goals have c2':obj h2 h1.size=some (.cells (XE b).toArray 33 (0,0)):=c2
  all_goals have key:=hk h2 e02
  all_goals have no:¬ (v=w)→K false h2:=fun hne=>by rw [decide_eq_false hne] at key;exact key
  all_goals refine rI (Zm c1' rfl) (rI (Zm c2' rfl) (Zbu (fun hne=>no fun e=>hne (by rw [a1,b1,e])) fun hek=>rS (Zm c1' rfl) (rS (Zm c2' rfl) ?_)))
  all_goals rw [show ZaK a.2.1 b.2.1=decide (v.t=w.t) by rw [a2,b2];exact Xq _ _]
  all_goals by_cases ht:v.t=w.t
  all_goals first
    | (rw [decide_eq_false ht];exact Zp rfl (no fun e=>ht (by rw [e])))
    | rw [decide_eq_true ht]
  all_goals have lxa:a.2.2.1.len=v.sub.len:=by have:=a5.len;have:=a7.len;omega
  all_goals have lxb:b.2.2.1.len=w.sub.len:=by have:=b5.len;have:=b7.len;omega
  all_goals have big:=a5.big
  all_goals have cap:=a5.cap
  all_goals refine Zt rfl (rL (s:=a.2.2.1) (Zm c1' rfl) (rL (s:=b.2.2.1) (Zm c2' rfl) (Zbu (fun hne=>no fun e=>hne (by rw [lxa,lxb,e])) fun hel=>rL (s:=a.2.2.2.1) (Zm c1' rfl) (rL (s:=b.2.2.2.1) (Zm c2' rfl) ?_))))
  all_goals refine Zgb (Xl a3 a4 fun j hj hl=>Ym e02 hl) (Xl b3 b4 fun j hj hl=>Ym e02 hl) ?_
  all_goals by_cases hns:v.ns=w.ns
  all_goals first
    | (rw [decide_eq_false hns];exact Zp rfl (no fun e=>hns (by rw [e])))
    | rw [decide_eq_true hns]
  all_goals refine Zt rfl (Za ?_)
  all_goals have hvw:v=w↔v.sub=w.sub:=⟨fun e=>by rw [e],fun e=>Zsx.2 ⟨by omega,ht,hns,e⟩⟩
  all_goals have hll:v.sub.len=w.sub.len:=by omega
  ·
   have hnil:v.sub = .nil:=by
     cases hs:v.sub with
     | nil=>rfl
     | cons k t ns s r=>rw [hs] at hn;simp [JL.hei] at hn
   have hnil2:w.sub = .nil:=JL.len_nil.1 (by rw [← hll,hnil];rfl)
   refine ZL (fun p h'=>h'=h2∧p.1=0) (fun _ _=>0) ⟨rfl,rfl⟩ ?_
   rintro ⟨i,u⟩ h3 ⟨rfl,hi⟩
   dsimp only at hi ⊢
   subst hi
   refine rL (s:=a.2.2.1) (Zm c1' rfl) (Zt (by rw [lxa,hnil];rfl) ?_)
   rw [decide_eq_true (hvw.2 (by rw [hnil,hnil2]))] at key
   exact key
  ·refine ZL (fun p h'=>∃ i:Nat,p.1=i∧i≤v.sub.len∧Ext h2 h'∧(v.sub=w.sub↔v.sub.drop i=w.sub.drop i)) (fun p _=>(v.sub.len - p.1).toNat) ⟨0,rfl,Nat.zero_le _,Ext.refl _,Iff.rfl⟩ ?_
   rintro ⟨i0,u⟩ h3 ⟨i,hi,hle,e3,hiff⟩
   dsimp only at hi ⊢
   subst hi
   have e03:=e02.trans e3
   have key3:=hk h3 e03
   have c13:=YK c1' e3
   have c23:=YK c2' e3
   refine rL (s:=a.2.2.1) (Zm c13 rfl) (Zo (fun hlt=>?_) fun hge=>?_)
   ·have hia:i<v.sub.len:=by omega
    obtain ⟨k,t,ns,s,r,hd⟩:=JL.drop_cons hia
    obtain ⟨k',t',ns',s',r',hd'⟩:=JL.drop_cons (l:=w.sub) (n:=i) (by omega)
    have ra:Row h3 a.2.2.1 4 cxa:=Xl a5 a6 fun j hj hl=>Ym e03 hl
    have rb:Row h3 b.2.2.1 4 cxb:=Xl b5 b6 fun j hj hl=>Ym e03 hl
    have la:X4 h3 S v.sub cxa:=a7.keep (fun j hj hl=>Ym e03 hl) fun j hj=>hj
    have lb:X4 h3 S' w.sub cxb:=b7.keep (fun j hj hl=>Ym e03 hl) fun j hj=>hj
    have hsz:=e03.size
    refine rL (s:=a.2.2.1) (Zm c13 rfl) (Zfx ra la hd rfl fun za hza=>?_)
    refine rL (s:=b.2.2.1) (Zm c23 rfl) (Zfx rb lb hd' rfl fun zb hzb=>?_)
    refine ih (v:=⟨k,t,ns,s⟩) (w:=⟨k',t',ns',s'⟩) (by have:=JL.drop_hei i v.sub hd;show s.hei≤n;omega) hza hzb (fun j hj=>Nat.lt_of_lt_of_le (hS j hj) hsz) (fun j hj=>Nat.lt_of_lt_of_le (hS' j hj) hsz) fun h4 e4=>?_
    refine Xw (Zm (YK c23 e4) rfl) (Xw (Zm (YK c13 e4) rfl) ?_)
    by_cases he:(⟨k,t,ns,s⟩:JV)=⟨k',t',ns',s'⟩
    ·rw [decide_eq_true he]
     cases he
     refine Zt rfl (Za ?_)
     rw [Ys (by omega) (by omega)]
     refine ⟨⟨i+1,rfl,by omega,e3.trans e4,?_⟩,by omega⟩
     rw [hiff,hd,hd',JL.drop_succ i _ hd,JL.drop_succ i _ hd']
     constructor
     ·intro e;cases e;rfl
     ·intro e;rw [e]
    ·rw [decide_eq_false he]
     refine Zp rfl ?_
     have key4:=hk h4 (e03.trans e4)
     rw [decide_eq_false] at key4
     ·exact key4
     ·rw [hvw,hiff,hd,hd']
      intro e;apply he;cases e;rfl
   ·rw [decide_eq_true] at key3
    ·exact key3
    ·rw [hvw,hiff,JL.drop_nil (by omega),JL.drop_nil (by omega)]
theorem Zga {h:Zc} {a b:VT5} {v w:JV} {S S':Nat→Prop} {K:Bool→HP} (va:Zbn h S a v) (vb:Zbn h S' b w) (hS:∀ j,S j→j<sz h) (hS':∀ j,S' j→j<sz h) (hk:∀ h',Ext h h'→K (decide (v=w)) h'):YD a b K h :=
  ⟨v.sub.hei+1,Zl6 _ (Nat.le_refl _) va vb hS hS' hk⟩
end Go.Proofs.YtpjbjdheeemdiaaGreatDoor
namespace Go.Js
open Go
def Zp0 (t:BL):Bool:=match Xm t with
  | .ok v=>decide (v.k=4)&&decide (v.t=t)
  | .err _ _=>false
def whB (k:Nat) (t:BL) (ns:List BL) (sub:JL):Bool :=
  if k=1∨k=2∨k=3 then decide (t=[])&&(sub.isNil&&decide (ns=[]))
  else if k=4 then Zp0 t&&(sub.isNil&&decide (ns=[]))
  else if k=5 then Lib.validD t&&(sub.isNil&&decide (ns=[]))
  else if k=6 then decide (t=[])&&decide (ns=[])
  else if k=7 then decide (t=[])&&(decide (ns.length=sub.len)&&ns.all Lib.validD)
  else false
def Zp2:JL→Prop
  | .nil=>True
  | .cons _ t ns sub rest=>t.length<9223372036854775807∧(∀ n∈ns,n.length<9223372036854775807)∧Zp2 sub∧Zp2 rest
def Znw (v:JV):Prop:=v.t.length<9223372036854775807∧(∀ n∈v.ns,n.length<9223372036854775807)∧Zp2 v.sub
abbrev Rt:=Nat→BL→List BL→JL→Bool
def Xz (rt:Rt):Nat→JL→Nat→Nat→Bool × Nat × Nat
  | _,.nil,n,dp=>(true,n,dp)
  | d,.cons k t ns sub rest,n,dp =>
    if 65536<n+1 then (false,n+1,dp)
    else if rt k t ns sub=false then (false,n+1,dp)
    else if k≠6∧k≠7 then Xz rt d rest (n+1) dp
    else if 64≤d then Xz rt d rest (n+1) (max dp (d+1))
    else if (Xz rt (d+1) sub (n+1) (max dp (d+1))).1=true then Xz rt d rest (Xz rt (d+1) sub (n+1) (max dp (d+1))).2.1 (Xz rt (d+1) sub (n+1) (max dp (d+1))).2.2
    else Xz rt (d+1) sub (n+1) (max dp (d+1))
def Zbl (rt:Rt) (d:Nat) (v:JV) (n dp:Nat):Bool × Nat × Nat:=Xz rt d (.cons v.k v.t v.ns v.sub .nil) n dp
theorem ZlK (rt:Rt) (d k:Nat) (t:BL) (ns:List BL) (sub rest:JL) (n dp:Nat):Xz rt d (.cons k t ns sub rest) n dp =
    if (Zbl rt d ⟨k,t,ns,sub⟩ n dp).1=true then Xz rt d rest (Zbl rt d ⟨k,t,ns,sub⟩ n dp).2.1 (Zbl rt d ⟨k,t,ns,sub⟩ n dp).2.2 else Zbl rt d ⟨k,t,ns,sub⟩ n dp:=by
  unfold Zbl
  simp only [Xz]
  by_cases h1:65536<n+1
  ·simp [h1]
  by_cases h2:rt k t ns sub=false
  ·simp [h1,h2]
  by_cases h3:k≠6∧k≠7
  ·simp [h1,h2,h3]
  by_cases h4:64≤d
  ·simp [h1,h2,h3,h4]
  by_cases h5:(Xz rt (d+1) sub (n+1) (max dp (d+1))).1=true
  ·simp [h1,h2,h3,h4,h5]
  ·simp [h1,h2,h3,h4,h5]
theorem Zkk:∀ (n:Nat) {l:JL} {k:Nat} {t:BL} {ns:List BL} {s r:JL},Zp2 l→l.drop n = .cons k t ns s r→Znw ⟨k,t,ns,s⟩
  | 0,l,k,t,ns,s,r,h,e=>by
    rw [show l=_ from e] at h
    exact ⟨h.1,h.2.1,h.2.2.1⟩
  | n+1,.nil,_,_,_,_,_,_,e=>by cases e
  | n+1,.cons _ _ _ _ r',_,_,_,_,_,h,e=>Zkk n h.2.2.2 e
end Go.Js
namespace Go.Proofs.YtpjbjdheeemdiaaGreatDoor
open Go Go.Fw Go.Js
section
variable {h:Zc}
theorem ZhM {t:BL} (ht:Zaq h) (hh:9≤sz h) {K:Bool→HP} (hk:∀ h',Ext h h'→K (Zp0 t) h'):Xt (Zd t) K h:=by
  unfold Xt Zbf
  refine ZgM ht hh fun z e n h1 e1 g=>?_
  have hp:(Zd t).data.toList=t:=rfl
  rw [hp] at g
  refine ZbP fun h2 c2 e2 z2=>?_
  have c2':obj h2 h1.size=some (.cells zV.toArray 33 (0,0)):=c2
  refine ZnI c2' (by simp) (Zcp z) fun h3 c3 u3 z3=>Za (Za ?_)
  have c3':obj h3 h1.size=some (.cells (XE z).toArray 33 (0,0)):=c3
  have hs1:sz h1=h1.size:=rfl
  have key:=hk h3 ((e1.trans e2).updS u3 fun j hj=>by have:=e1.size;have:sz h=h.size:=rfl;omega)
  unfold Zp0 at key
  cases hq:Xm t with
  | err e' k =>
    rw [hq] at g key
    obtain ⟨_,he,_⟩:=g
    have:=ZhE hq
    exact Zt (beq_eq_false_iff_ne.2 (by omega)) key
  | ok v =>
    rw [hq] at g key
    obtain ⟨vr,he,_⟩:=g
    simp only at key
    refine Zp (by rw [he];rfl) (rI (Zm c3' rfl) ?_)
    rw [vr.1]
    refine Xn (fun h4=>rS (Zm c3' rfl) (Zg ?_)) fun h4=>?_
    ·rw [decide_eq_true (show v.k=4 by omega),Bool.true_and] at key
     rw [vr.2.1,Xq];exact key
    ·rw [decide_eq_false (show ¬ v.k=4 by omega),Bool.false_and] at key
     exact key
theorem Zh4 {ns:List BL} {x:Sl} (hr:Row h x 1 (ns.map sV)) (hx:inS (fun j=>j<sz h) x) (hfit:∀ n∈ns,n.length<9223372036854775807) (ht:Zaq h) {K:Bool→HP} (hk:∀ h',Ext h h'→K (!ns.all Lib.validD) h'):Zq x K h:=by
  unfold Zq ZE ZA ZF
  have hl:=ZdU hr
  have hbig:=hr.big
  have hcap:=hr.cap
  refine Za ?_
  refine ZL (fun p h'=>∃ i:Nat,p.1=i∧i≤ns.length∧Ext h h'∧(ns.take i).all Lib.validD=true) (fun p _=>(ns.length - p.1).toNat) ⟨0,rfl,Nat.zero_le _,Ext.refl _,rfl⟩ ?_
  rintro ⟨i0,u⟩ h2 ⟨i,hi,hle,e2,hall⟩
  dsimp only at hi ⊢
  subst hi
  refine Zo (fun hlt=>Za ?_) fun hge=>Za (Zg ?_)
  ·have hia:i<ns.length:=by omega
   have hr2:Row h2 x 1 (ns.map sV):=Xl hr hx fun j hj hl=>Ym e2 hl
   refine ZhI hr2 (List.getElem?_eq_getElem hia) rfl ?_
   unfold Zaz ZbA
   have hfi:=hfit ns[i] (List.getElem_mem hia)
   refine ⟨ht.ext e2,by rw [Yk];omega,fun h3 e3=>Zg ?_⟩
   have hv:Lib.validD (Zd ns[i]).data.toList=Lib.validD ns[i]:=rfl
   rw [hv]
   cases hd:Lib.validD ns[i] with
   | true =>
     refine Zt rfl ?_
     rw [Ys (by omega) (by omega)]
     refine ⟨⟨i+1,rfl,by omega,e2.trans e3,?_⟩,by omega⟩
     rw [List.take_add_one,List.getElem?_eq_getElem hia,List.all_append,hall]
     simp [hd]
   | false =>
     refine Zp rfl (Za (Zg ?_))
     have:=hk h3 (e2.trans e3)
     have hna:ns.all Lib.validD=false:=by
       rw [List.all_eq_false]
       exact ⟨ns[i],List.getElem_mem hia,by simp [hd]⟩
     rw [hna] at this
     rw [decide_eq_true (show (i:Int)≥0 by omega)];exact this
  ·rw [List.take_of_length_le (by omega)] at hall
   have:=hk h2 e2
   rw [hall] at this
   exact this
theorem ZpT {a b:Bool} {K:Bool→Prop} (hk:K (a&&b)):ZD (!!a) (ZK (!!b) K) (K false):=by
  cases a
  ·exact Zt rfl hk
  ·cases b<;>exact Zp rfl (Zg hk)
theorem ZsI {a b c:Bool} {K:Bool→Prop} (hk:K (a&&(b&&c))):ZD (!!a) (ZD (!!b) (ZK (!!c) K) (K false)) (K false):=by
  cases a
  ·exact Zt rfl hk
  ·exact Zp rfl (ZpT hk)
theorem Zrm {a b c:Bool} {K:Bool→Prop} (hk:K (a&&(b&&c))):ZD a (ZD (!!b) (ZK (!!c) K) (K false)) (K false):=by
  cases a
  ·exact Zt rfl hk
  ·exact Zp rfl (ZpT hk)
theorem ZqW {x:Sl} {sub:JL} (hl:x.len=sub.len):decide ((x.len:Int)>0) = !sub.isNil:=by
  cases sub with
  | nil=>rw [hl];rfl
  | cons k t ns s r=>rw [hl];simp [JL.len,JL.isNil]
theorem Zsr {x:Sl} {ns:List BL} (hl:x.len=ns.length):decide ((x.len:Int)>0) = !decide (ns=[]):=by
  cases ns with
  | nil=>rw [hl];rfl
  | cons a ns=>rw [hl];simp
theorem ZkF {z:VT5} {v:JV} {S:Nat→Prop} (hv:Zbn h S z v) (hS:∀ j,S j→j<sz h) (hfit:Znw v) (ht:Zaq h) (hh:9≤sz h) {K:Bool→HP} (hk:∀ h',Ext h h'→K (whB v.k v.t v.ns v.sub) h'):ZaE z K h:=by
  unfold ZaE ZcL
  obtain ⟨a1,a2,a3,a4,cx,a5,a6,a7⟩:=hv
  refine ZbP fun h1 c1 e1 z1=>?_
  have c1':obj h1 h.size=some (.cells (XE z).toArray 33 (0,0)):=c1
  have hll:z.2.2.1.len=v.sub.len:=by have:=a5.len;have:=a7.len;omega
  have hnl:=ZdU a3
  refine rS (Zm c1' rfl) (rL (s:=z.2.2.1) (Zm c1' rfl) (rL (s:=z.2.2.2.1) (Zm c1' rfl) (Zg (Zg (Zg (rI (Zm c1' rfl) ?_))))))
  have htxt:(!ZaK z.2.1 (ByteArray.mk #[])) = !decide (v.t=[]):=by rw [a2,show (ByteArray.mk #[])=Zd [] from rfl,Xq]
  rw [htxt,ZqW hll,Zsr hnl,a1]
  have key:=hk h1 e1
  have e_:∀ {n:Nat} {A B:Prop},(v.k=n→A)→(v.k≠n→B)→ZK ((v.k:Int) ==(n:Int)) fun t=>ZD t A B:=fun {n A B} ha hb=>Zg (Xn (fun e=>ha (by omega)) fun e=>hb (by omega))
  refine ZC (fun p h'=>h'=h1∧(p.1=true↔v.k=1∨v.k=2∨v.k=3)) ?_ ?_
  ·rintro ⟨b,u⟩ h2 ⟨rfl,hb⟩
   dsimp only at hb ⊢
   cases hbb:b with
   | true =>
     have h123:=hb.1 hbb
     unfold whB at key
     rw [if_pos h123] at key
     refine Zp rfl ?_
     exact ZsI (K:=fun t=>K t h2) key
   | false =>
     have h123:¬ (v.k=1∨v.k=2∨v.k=3):=fun e=>by have:=hb.2 e;rw [hbb] at this;cases this
     refine Zt rfl ?_
     refine e_ (n:=4) (fun e4=>?_) fun n4=>e_ (n:=5) (fun e5=>?_) fun n5=>e_ (n:=6) (fun e6=>?_) fun n6=>e_ (n:=7) (fun e7=>?_) fun n7=>?_
     ·refine rS (Zm c1' rfl) ?_
      rw [a2]
      have hs1:9≤sz h2:=by have:=e1.size;have:sz h2=h2.size:=rfl;have:sz h=h.size:=rfl;omega
      refine ZhM (ht.ext e1) hs1 fun h3 e3=>?_
      have key:=hk h3 (e1.trans e3)
      unfold whB at key
      rw [if_neg h123,if_pos e4] at key
      exact Zrm (K:=fun t=>K t h3) key
     ·refine rS (Zm c1' rfl) ?_
      rw [a2]
      have hf:=hfit.1
      refine ⟨ht.ext e1,by rw [Yk];omega,fun h3 e3=>?_⟩
      have hvd:Lib.validD (Zd v.t).data.toList=Lib.validD v.t:=rfl
      rw [hvd]
      have key:=hk h3 (e1.trans e3)
      unfold whB at key
      rw [if_neg h123,if_neg n4,if_pos e5] at key
      exact Zrm (K:=fun t=>K t h3) key
     ·unfold whB at key
      rw [if_neg h123,if_neg n4,if_neg n5,if_pos e6] at key
      exact ZpT (K:=fun t=>K t h2) key
     ·unfold whB at key
      rw [if_neg h123,if_neg n4,if_neg n5,if_neg n6,if_pos e7] at key
      cases htt:decide (v.t=[]) with
      | false=>rw [htt] at key;exact Zt rfl key
      | true =>
        rw [htt,Bool.true_and] at key
        refine Zp rfl (rL (s:=z.2.2.2.1) (Zm c1' rfl) (rL (s:=z.2.2.1) (Zm c1' rfl) (Xn (fun hel=>?_) fun hel=>?_)))
        ·refine rL (s:=z.2.2.2.1) (Zm c1' rfl) (Zh4 (Xl a3 a4 fun j hj hl=>Ym e1 hl) ?_ hfit.2.1 (ht.ext e1) fun h3 e3=>Zg ?_)
         ·intro hl j hj
          have:=hS j (a4 hl j hj)
          have:=e1.size
          have:sz h2=h2.size:=rfl
          have:sz h=h.size:=rfl
          omega
         ·have key:=hk h3 (e1.trans e3)
          unfold whB at key
          rw [if_neg h123,if_neg n4,if_neg n5,if_neg n6,if_pos e7,htt,Bool.true_and,decide_eq_true (show v.ns.length=v.sub.len by omega),Bool.true_and] at key
          rw [Bool.not_not];exact key
        ·rw [decide_eq_false (show ¬ v.ns.length=v.sub.len by omega),Bool.false_and] at key
         exact key
     ·unfold whB at key
      rw [if_neg h123,if_neg n4,if_neg n5,if_neg n6,if_neg n7] at key
      exact key
  ·refine e_ (n:=1) (fun e=>⟨rfl,by simp [e]⟩) fun n1=>e_ (n:=2) (fun e=>⟨rfl,by simp [e]⟩) fun n2=>Zg ⟨rfl,?_⟩
   simp only [beq_iff_eq]
   omega
end
end Go.Proofs.YtpjbjdheeemdiaaGreatDoor
namespace Go.Proofs.YtpjbjdheeemdiaaGreatDoor
open Go Go.Fw Go.Js
def Zs2 (right:Value) (rt:Rt):Prop:=(right = .func (.func 94) #[] #[]∧rt=whB)∨(right = .func (.func 119) #[] #[]∧rt=fun _ _ _ _=>true)
abbrev Zve (n dp:Nat):List Value:=[.int .i64 n,.int .i64 dp]
def Zh7 (h:Zc) (C n dp:Nat):Prop:=obj h C=some (.cells (Zve n dp).toArray 157 (0,0))
theorem Za3 (rt:Rt):∀ (l:JL) (d n dp:Nat),n≤65536→(Xz rt d l n dp).2.1≤65537∧((Xz rt d l n dp).1=true→(Xz rt d l n dp).2.1≤65536)
  | .nil,d,n,dp,h=>⟨by show n≤65537;omega,fun _=>h⟩
  | .cons k t ns sub rest,d,n,dp,h=>by
    simp only [Xz]
    split
    ·exact ⟨by show n+1≤65537;omega,fun h=>by cases h⟩
    split
    ·exact ⟨by show n+1≤65537;omega,fun h=>by cases h⟩
    split
    ·exact Za3 rt rest d (n+1) dp (by omega)
    split
    ·exact Za3 rt rest d (n+1) _ (by omega)
    split
    ·rename_i hs
     have:=Za3 rt sub (d+1) (n+1) (max dp (d+1)) (by omega)
     exact Za3 rt rest d _ _ (this.2 hs)
    ·have:=Za3 rt sub (d+1) (n+1) (max dp (d+1)) (by omega)
     exact this
theorem ZaX (rt:Rt):∀ (l:JL) (d n dp:Nat),d≤64→dp≤65→(Xz rt d l n dp).2.2≤65
  | .nil,d,n,dp,_,h=>h
  | .cons k t ns sub rest,d,n,dp,hd,h=>by
    simp only [Xz]
    split
    ·exact h
    split
    ·exact h
    split
    ·exact ZaX rt rest d (n+1) dp hd h
    split
    ·exact ZaX rt rest d (n+1) _ hd (by omega)
    split
    ·exact ZaX rt rest d _ _ hd (ZaX rt sub (d+1) (n+1) _ (by omega) (by omega))
    ·exact ZaX rt sub (d+1) (n+1) _ (by omega) (by omega)
theorem rV {h:Zc} {b o:Nat} {n:Value} {K:Value→Prop} (hc:Xj o (obj h b)=some n) (hk:K n):ldV h b o K:=by rw [Zq5 hc];exact hk
def ZpU (f53:ZeX) (right:Value) (rt:Rt) (v:JV):Prop:=∀ {h:Zc} {C n dp d:Nat} {z:VT5} {S:Nat→Prop} {K:Bool→HP},Zbn h S z v→(∀ j,S j→j<sz h∧j≠C)→Znw v→Zaq h→9≤C→Zh7 h C n dp→n≤65536→d≤64→dp≤65 →
    (∀ h',Zh7 h' C (Zbl rt d v n dp).2.1 (Zbl rt d v n dp).2.2→Upd (· = C) h h'→K (Zbl rt d v n dp).1 h')→f53 (At C) z d right K h
theorem Zu9 {a b:Nat}:ZoS (a:Int) (b:Int)=((max a b:Nat):Int):=by
  unfold ZoS
  split<;>omega
theorem Zh8 {f53:ZeX} {right:Value} {rt:Rt} (hrt:Zs2 right rt) {v:JV} (hsub:∀ i k t ns s r,v.sub.drop i = .cons k t ns s r→ZpU f53 right rt ⟨k,t,ns,s⟩):ZpU (XC f53) right rt v:=by
  intro h C n dp d z S K hv hS hfit ht hC hc hn hd hdp hk
  unfold XC Zav
  have hCs:=ZaQ hc
  have hs:sz h=h.size:=rfl
  refine ZbP fun h1 c1 e1 z1=>ZbP fun h3 c3 e3 z3=>ZbP fun h5 c5 e5 z5=>?_
  have hone:ZW right=true:=by rcases hrt with ⟨e,_⟩ | ⟨e,_⟩<;>rw [e]<;>simp [ZW]
  refine ⟨hone,ZbP fun h7 c7 e7 z7=>?_⟩
  have e17:=(e3.trans e5).trans e7
  have e07:=e1.trans e17
  have s1:sz h1=h1.size:=rfl
  have s3:sz h3=h3.size:=rfl
  have s5:sz h5=h5.size:=rfl
  have b1:obj h7 h.size=some (.cells [.pointer (At C)].toArray 155 (0,0)):=YK c1 e17
  have b2:obj h7 h1.size=some (.cells (XE z).toArray 33 (0,0)):=YK c3 (e5.trans e7)
  have b3:obj h7 h3.size=some (.cells [.int .i64 d].toArray 3 (0,0)):=YK c5 e7
  have b4:obj h7 h5.size=some (.cells [right].toArray 45 (0,0)):=c7
  have hC7:Zh7 h7 C n dp:=YK hc e07
  refine rP (Zm b1 rfl) (ZP (rI (Zm hC7 rfl) (ZP (ZjZ hC7 (by simp) Zby fun h8 c8 u8 z8=>?_))))
  have hC8:Zh7 h8 C (n+1) dp:=by
    unfold Zh7
    rw [c8,Ys (by omega) (by omega)];rfl
  have d1:¬ h.size=C:=by omega
  have d2:¬ h1.size=C:=by omega
  have d3:¬ h3.size=C:=by omega
  have d4:¬ h5.size=C:=by omega
  have g1:=Yq b1 u8 d1
  have g2:=Yq b2 u8 d2
  have g3:=Yq b3 u8 d3
  have g4:=Yq b4 u8 d4
  have u08:Upd (· = C) h h8:=UN e07 u8
  have hW:Zbl rt d v n dp=Xz rt d (.cons v.k v.t v.ns v.sub .nil) n dp:=rfl
  simp only [Xz] at hW
  refine rP (Zm g1 rfl) (ZP (rI (Zm hC8 rfl) (Zo (fun hbig=>?_) fun hsmall=>rV (Zm g4 rfl) (rI (Zm g2 rfl) (rS (Zm g2 rfl) (rL (s:=z.2.2.1) (Zm g2 rfl) (rL (s:=z.2.2.2.1) (Zm g2 rfl) ?_)))))))
  ·rw [if_pos (by omega)] at hW
   rw [hW] at hk
   exact hk h8 hC8 u08
  rw [if_neg (by omega)] at hW
  have v8:Zbn h8 S z v:=hv.keep (fun j hj hl=>Yt u08 hl (hS j hj).2) fun j hj=>hj
  have hS8:∀ j,S j→j<sz h8:=fun j hj=>Nat.lt_of_lt_of_le (hS j hj).1 (ZdF u08)
  have t8:Zaq h8:=ht.upd u08 fun j hj=>by subst hj;exact hC
  have rest:∀ h22,Ext h8 h22→(fun t24 h22 =>
     ZD (!t24) (
     K false h22) (
     Zcn (σ:=Unit) (fun s h29 =>
     ldP h29 h.size 0 fun t30 =>
     ldP h29 h.size 0 fun t31 =>
     Ze t31 fun b32 o33 =>
     ldI h29 b32 (o33+1) .i64 fun t34 =>
     ldI h29 h3.size 0 .i64 fun t35 =>
     Ze t30 fun b36 o37 =>
     st h29 b36 (o37+1) (.int .i64 (ZoS t34 (IntKind.wrap .i64 (t35+1)))) fun h38 =>
     ldI h38 h3.size 0 .i64 fun t39 =>
     ZD (decide (t39≥64)) (
     K true h38) (
     ldL h38 h1.size (0+2) fun t40 =>
     Zj f53 t40 (some ⟨h.size,0,none⟩,some ⟨h3.size,0,none⟩,some ⟨h5.size,0,none⟩,()) (fun t41 h42 =>
     ZK (!t41) fun t43 =>
     K t43 h42) h38)) (fun J26 =>
     ldI h22 h1.size 0 .u8 fun t27 =>
     ZD (t27 !=6) (
     ldI h22 h1.size 0 .u8 fun t28 =>
     ZD (t28 !=7) (
     K true h22) (
     J26 (()) h22)) (
     J26 (()) h22)))) (rt v.k v.t v.ns v.sub) h22:=by
    intro h22 e22
    have hC22:Zh7 h22 C (n+1) dp:=YK hC8 e22
    have u022:=u08.trans (e22.upd _)
    have g1:=YK g1 e22
    have g2:=YK g2 e22
    have g3:=YK g3 e22
    have g4:=YK g4 e22
    cases hr:rt v.k v.t v.ns v.sub with
    | false =>
      rw [if_pos hr] at hW
      rw [hW] at hk
      exact Zp rfl (hk h22 hC22 u022)
    | true =>
      rw [if_neg (by simp [hr])] at hW
      refine Zt rfl ?_
      refine ZC (fun _ h'=>h'=h22∧(v.k=6∨v.k=7)) ?_ ?_
      ·rintro ⟨⟩ h29 ⟨rfl,hk67⟩
       rw [if_neg (by omega)] at hW
       refine rP (Zm g1 rfl) (rP (Zm g1 rfl) (ZP (rI (Zm hC22 rfl) (rI (Zm g3 rfl) (ZP (ZjZ hC22 (by simp) Zby fun h38 c38 u38 z38=>?_))))))
       have hC38:Zh7 h38 C (n+1) (max dp (d+1)):=by
         unfold Zh7
         rw [c38,Ys (by omega) (by omega),show (d:Int)+1=((d+1:Nat):Int) from rfl,Zu9];rfl
       have g1:=Yq g1 u38 d1
       have g2:=Yq g2 u38 d2
       have g3:=Yq g3 u38 d3
       have g4:=Yq g4 u38 d4
       have u038:=u022.trans u38
       refine rI (Zm g3 rfl) (Zo (fun h64=>?_) fun h64=>?_)
       ·rw [if_pos (by omega)] at hW
        rw [hW] at hk
        exact hk h38 hC38 u038
       ·rw [if_neg (by omega)] at hW
        refine rL (s:=z.2.2.1) (Zm g2 rfl) ?_
        unfold Zj Zz Zu ZB
        obtain ⟨a1,a2,a3,a4,cx,a5,a6,a7⟩:=id hv
        have hlx:z.2.2.1.len=v.sub.len:=by have:=a5.len;have:=a7.len;omega
        have hbig:=a5.big
        have hcap:=a5.cap
        refine Za ?_
        refine ZL (fun p h'=>∃ i ni di:Nat,p.1=i∧i≤v.sub.len∧Upd (· = C) h38 h'∧Zh7 h' C ni di∧ni≤65536∧di≤65∧Xz rt (d+1) v.sub (n+1) (max dp (d+1))=Xz rt (d+1) (v.sub.drop i) ni di) (fun p _=>(v.sub.len - p.1).toNat)
          ⟨0,n+1,max dp (d+1),rfl,Nat.zero_le _,Upd.refl _ _,hC38,by omega,by omega,rfl⟩ ?_
        rintro ⟨i0,u⟩ h40 ⟨i,ni,di,hi,hle,u40,hC40,hni,hdi,q40⟩
        dsimp only at hi ⊢
        subst hi
        have u040:=u038.trans u40
        refine Zo (fun hlt=>Za ?_) fun hge=>Za (Zg (Zg ?_))
        ·have hia:i<v.sub.len:=by omega
         obtain ⟨k,t,ns,s,r,hd9⟩:=JL.drop_cons hia
         have keepS:∀ j,S j→j<sz h→obj h40 j=obj h j:=fun j hj hl=>Yt u040 hl (hS j hj).2
         have ra:Row h40 z.2.2.1 4 cx:=Xl a5 a6 keepS
         have la:X4 h40 S v.sub cx:=a7.keep keepS fun j hj=>hj
         refine Zfx ra la hd9 rfl fun zi hzi=>?_
         unfold Y9 X2
         refine ZbP fun h41 c41 e41 z41=>?_
         have c41':obj h41 h40.size=some (.cells (XE zi).toArray 33 (0,0)):=c41
         have g1:=YK (Yq g1 u40 d1) e41
         have g3:=YK (Yq g3 u40 d3) e41
         have g4:=YK (Yq g4 u40 d4) e41
         refine ZP (rP (Zm g1 rfl) (rI (Zm c41' rfl) (rS (Zm c41' rfl) (rL (s:=zi.2.2.1) (Zm c41' rfl) (rL (s:=zi.2.2.2.1) (Zm c41' rfl) (ZP (rI (Zm g3 rfl) (ZP (rV (Zm g4 rfl) ?_)))))))))
         rw [Ys (by omega) (by omega),show (d:Int)+1=((d+1:Nat):Int) from rfl]
         have u041:=u040.trans (e41.upd _)
         have hwc:=ZlK rt (d+1) k t ns s r ni di
         have hnle:=Za3 rt (.cons k t ns s .nil) (d+1) ni di hni
         have hdle:=ZaX rt (.cons k t ns s .nil) (d+1) ni di (by omega) hdi
         rw [hd9,hwc] at q40
         refine hsub i k t ns s r hd9 (h:=h41) (S:=S) (hzi.keep (fun j hj hl=>Ym e41 hl) fun j hj=>hj) (fun j hj=>⟨Nat.lt_of_lt_of_le (hS j hj).1 (ZdF u041),(hS j hj).2⟩) (Zkk i hfit.2.2 hd9) (ht.upd u041 fun j hj=>by subst hj;exact hC) hC (YK hC40 e41) hni (by omega) hdi fun h42 hC42 u42=>Zg ?_
         have hwv:Zbl rt (d+1) ⟨k,t,ns,s⟩ ni di=Xz rt (d+1) (.cons k t ns s .nil) ni di:=rfl
         rw [← hwv] at hnle hdle
         cases hw:(Zbl rt (d+1) ⟨k,t,ns,s⟩ ni di).1 with
         | true =>
           rw [if_pos hw] at q40
           refine Zt rfl ?_
           rw [Ys (by omega) (by omega)]
           exact ⟨⟨i+1,_,_,rfl,by omega,u40.trans ((e41.upd _).trans u42),hC42,hnle.2 hw,hdle,by rw [q40,JL.drop_succ i _ hd9]⟩,by omega⟩
         | false =>
           rw [if_neg (by simp [hw])] at q40
           refine Zp rfl (Za (Zg (Zg ?_)))
           rw [q40,if_neg (by simp [hw])] at hW
           rw [hW,hw] at hk
           rw [show decide ((i:Int)≥0)=true by simp]
           exact hk h42 hC42 (u041.trans u42)
        ·rw [JL.drop_nil (by omega)] at q40
         have q9:Xz rt (d+1) v.sub (n+1) (max dp (d+1))=(true,ni,di):=q40
         rw [q9,if_pos rfl] at hW
         have hW9:Zbl rt d v n dp=(true,ni,di):=hW
         rw [hW9] at hk
         exact hk h40 hC40 u040
      ·refine rI (Zm g2 rfl) ?_
       rw [hv.1]
       refine Zbu (fun n6=>rI (Zm g2 rfl) ?_) fun e6=>⟨rfl,.inl (by omega)⟩
       rw [hv.1]
       refine Zbu (fun n7=>?_) fun e7=>⟨rfl,.inr (by omega)⟩
       rw [if_pos (by omega)] at hW
       have hW9:Zbl rt d v n dp=(true,n+1,dp):=hW
       rw [hW9] at hk
       exact hk h22 hC22 u022
  rcases hrt with ⟨hr1,hr2⟩ | ⟨hr1,hr2⟩
  ·refine .inl ⟨hr1,?_⟩
   subst hr2
   refine ZkF (z:=z) v8 hS8 hfit t8 (by have:=ZdF u08;omega) fun h22 e22=>?_
   exact rest h22 e22
  ·refine .inr (.inl ⟨hr1,?_⟩)
   subst hr2
   unfold ZaA ZbB
   refine ZbP fun h22 c22 e22 z22=>?_
   exact rest h22 e22
theorem Ze3 {right:Value} {rt:Rt} (hrt:Zs2 right rt):∀ (m:Nat) (v:JV),v.sub.hei≤m→ZpU (Yp (m+1)) right rt v
  | 0,v,hm=>Zh8 (f53:=Yp 0) hrt fun i k t ns s r hd=>by
    have:=JL.drop_hei i v.sub hd
    omega
  | m+1,v,hm=>Zh8 (f53:=Yp (m+1)) hrt fun i k t ns s r hd=>Ze3 hrt m ⟨k,t,ns,s⟩ (by have:=JL.drop_hei i v.sub hd;show s.hei≤m;omega)
def Zcz (v:JV):Bool:=(Zbl whB 0 v 0 0).1&&decide ((Zbl whB 0 v 0 0).2.2≤64)
theorem ZgH {h:Zc} {z:VT5} {v:JV} {S:Nat→Prop} {K:Bool→HP} (hv:Zbn h S z v) (hS:∀ j,S j→j<sz h) (hfit:Znw v) (ht:Zaq h) (hh:9≤sz h) (hk:∀ h',Ext h h'→K (Zcz v) h'):Xv z K h:=by
  unfold Xv ZcO
  have hs:sz h=h.size:=rfl
  refine ZbP fun h1 c1 e1 z1=>ZbP fun h3 c3 e3 z3=>?_
  have s1:sz h1=h1.size:=rfl
  have c1':obj h3 h.size=some (.cells (XE z).toArray 33 (0,0)):=YK c1 e3
  have e03:=e1.trans e3
  refine rI (Zm c1' rfl) (rS (Zm c1' rfl) (rL (s:=z.2.2.1) (Zm c1' rfl) (rL (s:=z.2.2.2.1) (Zm c1' rfl) ?_)))
  refine ⟨v.sub.hei+1,Ze3 (rt:=whB) (.inl ⟨rfl,rfl⟩) _ v (Nat.le_refl _) (n:=0) (dp:=0) (d:=0) (z:=z) (hv.ext hS e03) (fun j hj=>⟨Nat.lt_of_lt_of_le (hS j hj) e03.size,by have:=hS j hj;omega⟩) hfit (ht.ext e03) (by omega) c3 (by omega) (by omega) (by omega) fun h8 hC8 u8=>?_⟩
  have key:=hk h8 (e03.updS u8 fun j hj=>by omega)
  unfold Zcz at key
  cases hw:(Zbl whB 0 v 0 0).1 with
  | false=>rw [hw] at key;exact Zt rfl key
  | true =>
    rw [hw,Bool.true_and] at key
    refine Zp rfl (rI (Zm hC8 rfl) (Zg ?_))
    rw [show decide ((((Zbl whB 0 v 0 0).2.2:Nat):Int)≤64)=decide ((Zbl whB 0 v 0 0).2.2≤64) by rw [decide_eq_decide];omega]
    exact key
end Go.Proofs.YtpjbjdheeemdiaaGreatDoor
