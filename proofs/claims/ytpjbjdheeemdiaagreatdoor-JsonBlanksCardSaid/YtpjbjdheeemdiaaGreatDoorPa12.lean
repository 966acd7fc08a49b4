/- A value is written: json.Print. -/
import Derived.KernelRfl
import Derived.Test.YtpjbjdheeemdiaaGreatDoorRows
import Derived.Lib.LaidU8
import Derived.Stop.Joined
import Derived.MakeChecks
import Derived.ProofKit
import Derived.OpenShut
import Derived.Lay
import Derived.Test.YtpjbjdheeemdiaaGreatDoorPa11
set_option linter.unusedVariables false
set_option linter.unusedSimpArgs false
namespace Go.Js
open Go
def okN:JL→Prop
  | .nil=>True
  | .cons k _ ns sub rest=>(k=7→ns.length=sub.len)∧okN sub∧okN rest
def WR (out p out':BL):Prop:=out'=out++p∨(65536<out'.length∧65536<(out++p).length)
theorem WR.trans {a p b q c:BL} (h:WR a p b) (h':WR b q c) (hl:b.length≤c.length):WR a (p++q) c:=by
  rcases h with rfl | ⟨h1,h2⟩
  ·rcases h' with rfl | ⟨h3,h4⟩
   ·left;rw [List.append_assoc]
   ·right;exact ⟨h3,by rw [← List.append_assoc];exact h4⟩
  ·right
   refine ⟨by omega,?_⟩
   simp only [List.length_append] at h2 ⊢
   omega
theorem WR.refl (a:BL):WR a [] a:= .inl (by simp)
theorem Zj1:∀ (n:Nat) {l:JL} {k:Nat} {t:BL} {ns:List BL} {s r:JL},okN l→l.drop n = .cons k t ns s r→(k=7→ns.length=s.len)∧okN s
  | 0,l,k,t,ns,s,r,h,e=>by
    rw [show l=_ from e] at h
    exact ⟨h.1,h.2.1⟩
  | n+1,.nil,_,_,_,_,_,_,e=>by cases e
  | n+1,.cons _ _ _ _ r',_,_,_,_,_,h,e=>Zj1 n h.2.2 e
end Go.Js
namespace Go.Proofs.YtpjbjdheeemdiaaGreatDoor
open Go Go.Fw Go.Js
abbrev ctl:BL:=[8,12,10,13,9]
theorem ZpM:∀ c:UInt8,c≠34→c≠92→0≤Lib.indexByte ctl c→((⟨#[98,102,110,114,116]⟩:ByteArray)[(Lib.indexByte ctl c).toNat]?).map (fun m=>([92,m]:BL))=some (ZbD c):=Zp6 (by decide +kernel)
theorem ZpL:∀ c:UInt8,c≠34→c≠92→Lib.indexByte ctl c<0→c.toNat<32→ZbD c=[92,117,48,48,ZmN (c.toNat / 16),ZmN (c.toNat % 16)]:=Zp6 (by decide +kernel)
theorem Zoo:∀ c:UInt8,c≠34→c≠92→Lib.indexByte ctl c<0→¬ c.toNat<32→ZbD c=[c]:=Zp6 (by decide +kernel)
abbrev ZsA:ByteArray:=⟨#[48,49,50,51,52,53,54,55,56,57,97,98,99,100,101,102]⟩
theorem Zo2:∀ n:Fin 16,ZsA[n.val]?=some (ZmN n.val):=by decide +kernel
theorem ZoR:∀ b:Fin 256,ZkN .u8 ((b.val:Nat):Int) 4=((b.val / 16:Nat):Int):=by decide +kernel
theorem ZoQ:∀ b:Fin 256,ZkB .u8 ((b.val:Nat):Int) 15=((b.val % 16:Nat):Int):=by decide +kernel
theorem Buf.app2 {h:Zc} {base:Nat} {x:Sl} {l new:BL} {n:Nat} {cells:List Value} {K:Sl→Zc→Prop} (hb:Buf h base x l) (hbase:base≤sz h) (hn:n=new.length) (hc:cells=new.map bv) (hs:l.length+new.length≤1000000000)
    (hk:∀ x' h',Buf h' base x' (l++new)→Upd (fun k=>x.blk=some k) h h'→(∀ j,x'.blk=some j→x.blk=some j∨sz h≤j)→sz h≤sz h'→K x' h'):Fw.app 5 1 1 [.int .u8 0] x n cells h K:=by
  subst hn hc
  have hlen:=hb.len
  have hcap:=hb.cap
  refine ⟨fun hroom=>?_,fun hgt=>⟨by omega,by omega,?_⟩⟩
  ·rcases hb.at_ with ⟨hp,h0⟩ | ⟨b,c,hp,hbb,hblk,hcl,hv,hne⟩
   ·left
    have hl0:new=[]:=List.eq_nil_of_length_eq_zero (by omega)
    subst hl0
    refine ⟨rfl,?_⟩
    have:l=[]:=List.eq_nil_of_length_eq_zero (by omega)
    subst this
    refine hk _ _ ⟨?_,hroom,hb.big,.inl ⟨hp,h0⟩⟩ (Upd.refl _ _) (fun j hj=> .inl hj) (Nat.le_refl _)
    simpa using hlen
   ·right
    refine ⟨b,0,hp,Zc8 hblk (by simp [hcl];omega),Ziv new,?_⟩
    have hp1:=Zix (o:=0+x.len*1) (vs:=new.map bv) hblk
    refine hk _ _ ⟨by simp [hlen],hroom,hb.big,.inr ⟨b,_,hp,hbb,hp1,by rw [Zbt];exact hcl,?_,by simp [hne]⟩⟩ ((Upd.puts h b _ _).mono fun k _ hk=>by subst hk;simp [Sl.blk,hp]) (fun j hj=> .inl hj) (by rw [Zct];exact Nat.le_refl _)
    have:=ZcH (new.map bv) (0+x.len*1) c (by simp [hcl];omega)
    simp only [List.length_map] at this
    rw [List.map_append,hv]
    simpa using this.symm
  ·have hrow:rdS x 1 h fun old=>old=l.map bv:=by
     rcases hb.at_ with ⟨hp,h0⟩ | ⟨b,c,hp,hbb,hblk,hcl,hv,_⟩
     ·have:l=[]:=List.eq_nil_of_length_eq_zero (by omega)
      subst this
      exact .inl ⟨by simpa using hlen,rfl⟩
     ·refine .inr ⟨b,0,l.map bv,hp,by simp [hlen],ZcJ hblk fun i v hi=>?_,rfl⟩
      rw [hv,List.getElem?_take] at hi
      split at hi
      ·simpa using hi
      ·cases hi
   have next:∀ cap,x.len+new.length≤cap→cap<9223372036854775808→K ⟨some ⟨h.size,0,none⟩,x.len+new.length,cap⟩ (h.push (.cells (l.map bv++new.map bv++YZ [.int .u8 0] (cap - (x.len+new.length))).toArray 5)):=fun cap h1 h2=>by
     refine hk _ _ ⟨by simp [hlen],h1,h2,.inr ⟨h.size,_,rfl,hbase,ZdP,?_,?_,fun h9=>by have h8:=congrArg List.length h9;rw [List.length_append,List.length_nil] at h8;omega⟩⟩ ((Ext.push h _).upd _) (fun j hj=> .inr (by simp [Sl.blk] at hj;subst hj;exact Nat.le_refl _)) (by rw [Zl2];omega)
     ·simp only [List.length_append,List.length_map,Zbx,List.length_singleton];omega
     ·rw [List.map_append,List.take_append_of_le_length (by simp [hlen]),List.take_of_length_le (by simp [hlen])]
   rcases hrow with ⟨a,b⟩ | ⟨b,o,vs,a1,a2,a3,a4⟩
   ·refine .inl ⟨a,?_⟩
    have:l=[]:=by cases l with | nil=>rfl | cons c l=>cases b
    subst this
    exact next
   ·exact .inr ⟨b,o,vs,a1,a2,a3,by rw [a4];exact next⟩
def ZlA (h:Zc) (B j:Nat):Prop:=j=B∨∃ (c:Value) (x:Sl) (T:TypeId),obj h B=some (.cells [c,slV x].toArray T (0,0))∧x.blk=some j
structure BU (B:Nat) (h h':Zc):Prop where
  upd:Upd (ZlA h B) h h'
  foot:∀ j,ZlA h' B j→ZlA h B j∨sz h≤j
theorem BU.refl (B:Nat) (h:Zc):BU B h h:=⟨Upd.refl _ _,fun j hj=> .inl hj⟩
theorem BU.trans {B:Nat} {a b c:Zc} (u:BU B a b) (u':BU B b c):BU B a c:=by
  have h1:=ZdF u.upd
  refine ⟨⟨Nat.le_trans u.upd.size u'.upd.size,fun k hk hn=>(u'.upd.old k (Nat.lt_of_lt_of_le hk u.upd.size) fun h9=>?_).trans (u.upd.old k hk hn)⟩,fun j hj=>?_⟩
  ·rcases u.foot k h9 with h8 | h8
   ·exact hn h8
   ·have:sz a=a.size:=rfl;omega
  ·rcases u'.foot j hj with h9 | h9
   ·exact u.foot j h9
   ·right;omega
theorem Zph {x y:Sl} (h:slV x=slV y):x=y:=by
  rw [ZqM] at h;exact h
theorem Zdx {h:Zc} {B:Nat} {c:Value} {x:Sl} {T:TypeId} (hb:obj h B=some (.cells [c,slV x].toArray T (0,0))) {j:Nat}:ZlA h B j↔j=B∨x.blk=some j:=by
  constructor
  ·rintro (h1 | ⟨c',x',T',h2,h3⟩)
   ·exact .inl h1
   ·rw [hb] at h2
    have e:[c,slV x]=[c',slV x']:=by
      have:=Option.some.inj h2
      injection this with e1 _ _
      simpa using e1
    simp only [List.cons.injEq,and_true] at e
    rw [Zph e.2]
    exact .inr h3
  ·rintro (h1 | h1)
   ·exact .inl h1
   ·exact .inr ⟨c,x,T,hb,h1⟩
theorem Ext.bu {B:Nat} {h h':Zc} (e:Ext h h') (hB:B<sz h):BU B h h':=by
  refine ⟨e.upd _,fun j hj=>?_⟩
  rcases hj with h1 | ⟨c,x,T,h2,h3⟩
  ·exact .inl (.inl h1)
  ·rw [Ym e hB] at h2
   exact .inl (.inr ⟨c,x,T,h2,h3⟩)
theorem BU.keep {B:Nat} {h h':Zc} (u:BU B h h') {b:Nat} {x:Obj} (hb:obj h b=some x) (hn:¬ ZlA h B b):obj h' b=some x∧¬ ZlA h' B b:=by
  refine ⟨Yq hb u.upd hn,fun h9=>?_⟩
  rcases u.foot b h9 with h8 | h8
  ·exact hn h8
  ·have:=ZaQ hb;omega
theorem Zg8 {h:Zc} {B:Nat} {T:TypeId} {out:BL} (hb:Bld h B T out) {K:HP} (hk:∀ h' x,Zrx T→BU B h h'→obj h' B=some (.cells [.pointer (At B),slV x].toArray T (0,0))→Buf h' (B+1) x out→B<sz h'→K h'):Zx (At B) K h:=by
  have hlt:=hb.lt
  obtain ⟨hT,c,x,b,hc,hx⟩:=hb
  refine ⟨B,c,slV x,T,rfl,b,hT,?_⟩
  rcases hc with rfl | rfl
  ·left
   refine ⟨rfl,?_⟩
   have hp:obj (h.put B 0 (.pointer (some ⟨B,0,none⟩))) B=some (.cells [.pointer (At B),slV x].toArray T (0,0)):=by rw [Zfs,if_pos rfl,b,ZcE];rfl
   have hbuf:Buf (h.put B 0 (.pointer (some ⟨B,0,none⟩))) (B+1) x out:=hx.congr fun k hk hl=>by rw [Zfs,if_neg (by have:=(hx.lt hk).1;omega)]
   refine hk _ x hT ⟨(Upd.put h B 0 _).mono fun k _ hk=>by subst hk;exact .inl rfl,fun j hj=> .inl ?_⟩ hp hbuf (by rw [ZoI];exact hlt)
   exact (Zdx b).2 ((Zdx hp).1 hj)
  ·exact .inr ⟨rfl,hk h x hT (BU.refl _ _) b hx hlt⟩
theorem Zkv {h:Zc} {B:Nat} {T:TypeId} {out new:BL} {x:Sl} {n:Nat} {cells:List Value} (hT:Zrx T) (hb:obj h B=some (.cells [.pointer (At B),slV x].toArray T (0,0))) (hx:Buf h (B+1) x out) (hn:n=new.length) (hc:cells=new.map bv) (hs:out.length+new.length≤1000000000) {K:HP}
    (hk:∀ h',Bld h' B T (out++new)→BU B h h'→K h'):Fw.app 5 1 1 [.int .u8 0] x n cells h fun t5 h6=>Ze (At B) fun b7 o8=>st h6 b7 (o8+1) (.slice t5.ptr t5.len t5.cap) K:=by
  have hlt:=ZaQ hb
  refine hx.app2 (by omega) hn hc hs fun x' h6 hx6 u6 f6 z6=>?_
  have hb6:obj h6 B=some (.cells [.pointer (At B),slV x].toArray T (0,0)):=Yq hb u6 fun e=>by have:=(hx.lt e).1;omega
  refine ZP (ZjZ hb6 (by simp) Ziu fun h9 c9 u9 z9=>?_)
  have c9':obj h9 B=some (.cells [.pointer (At B),slV x'].toArray T (0,0)):=c9
  have hbf:Buf h9 (B+1) x' (out++new):=hx6.congr fun k hk hl=>Yt u9 hl (by have:=(hx6.lt hk).1;omega)
  refine hk h9 ⟨hT,_,x',c9',.inr rfl,hbf⟩ ⟨⟨by have:=u6.size;have:=u9.size;omega,fun j hj hn=>?_⟩,fun j hj=>?_⟩
  ·have n1:¬ x.blk=some j:=fun e=>hn ((Zdx hb).2 (.inr e))
   have n2:¬ j=B:=fun e=>hn ((Zdx hb).2 (.inl e))
   have hs0:sz h=h.size:=rfl
   exact (Yt u9 (by omega) n2).trans (Yt u6 hj n1)
  ·rcases (Zdx c9').1 hj with h9 | h9
   ·exact .inl (.inl h9)
   ·rcases f6 j h9 with h8 | h8
    ·exact .inl ((Zdx hb).2 (.inr h8))
    ·exact .inr h8
theorem Zar {h:Zc} {B:Nat} {T:TypeId} {out:BL} (hb:Bld h B T out) {c:UInt8} {n:Int} (hn:n=c.toNat) (hs:out.length<900000000) {K:Value→HP} (hk:∀ h',Bld h' B T (out++[c])→BU B h h'→K .nilIface h'):Zl (At B) n K h:=by
  subst hn
  unfold Zl Ye
  refine Zg8 hb fun h1 x hT u1 c1 hx l1=>ZP (rL (Zm c1 rfl) ?_)
  refine Zst [c] 1 rfl rfl (by decide) fun b3 h4 hr e4 _=>hr.rd ?_
  have hx4:=hx.congr (h':=h4) fun k hk hl=>Ym e4 hl
  exact Zkv hT (YK c1 e4) hx4 (new:=[c]) rfl rfl (by simp;omega) fun h9 b9 u9=>hk h9 b9 (u1.trans ((Ext.bu e4 l1).trans u9))
theorem ZlD {h:Zc} {B:Nat} {T:TypeId} {out:BL} (hb:Bld h B T out) {s:ByteArray} (hs:out.length+s.size<900000000) {K:Int→Value→HP} (hk:∀ h',Bld h' B T (out++s.data.toList)→BU B h h'→K s.size .nilIface h'):Zk (At B) s K h:=by
  unfold Zk Z7
  refine Za (Zg8 hb fun h1 x hT u1 c1 hx l1=>ZP (rL (Zm c1 rfl) ?_))
  exact Zkv hT c1 hx (new:=s.data.toList) (by simp) rfl (by simp;omega) fun h9 b9 u9=>Za (hk h9 b9 (u1.trans u9))
section
variable {h:Zc} {B:Nat} {T:TypeId} {out:BL}
theorem Zj9 (hb:Bld h B T out) {K:Int→HP} (hk:K out.length h):Z0 (At B) K h:=by
  unfold Z0 Xx
  obtain ⟨hT,c,x,b,hc,hx⟩:=hb
  refine Za (ZP (rL (s:=x) (Zm b rfl) (Za ?_)))
  rw [hx.len];exact hk
theorem Zop (c:UInt8):(ZbD c).length≤6:=by
  have:∀ b:Fin 256,(ZbD ⟨⟨b⟩⟩).length≤6:=by decide +kernel
  rcases c with ⟨⟨b⟩⟩
  exact this b
theorem Zgq (hb:Bld h B T out) {t:BL} (hs:out.length+(Zcj t).length<800000000) {K:HP} (hk:∀ h',Bld h' B T (out++Zcj t)→BU B h h'→K h'):YO (At B) (Zd t) K h:=by
  unfold YO Zah
  have hq:(Zcj t).length=(t.flatMap ZbD).length+2:=by simp [Zcj]
  have e_len:∀ c:UInt8,1≤(ZbD c).length:=fun c=>by
    have:∀ b:Fin 256,1≤(ZbD ⟨⟨b⟩⟩).length:=by decide +kernel
    rcases c with ⟨⟨b⟩⟩
    exact this b
  have tl:∀ t:BL,t.length≤(t.flatMap ZbD).length:=fun t=>by
    induction t with
    | nil=>simp
    | cons c t ih=>have:=e_len c;simp only [List.flatMap_cons,List.length_append,List.length_cons];omega
  have htl:=tl t
  refine ZP (Zar (c:=34) hb rfl (by omega) fun h1 b1 u1=>?_)
  refine ZL (fun p h'=>∃ i:Nat,p.1=i∧i≤t.length∧Bld h' B T (out++34::(t.take i).flatMap ZbD)∧BU B h h') (fun p _=>(t.length - p.1).toNat) ⟨0,rfl,Nat.zero_le _,by simpa using b1,u1⟩ ?_
  rintro ⟨i0,u⟩ h2 ⟨i,hi,hle,b2,u2⟩
  dsimp only at hi ⊢
  subst hi
  have pl:((t.take i).flatMap ZbD).length≤(t.flatMap ZbD).length:=by
    conv=>rhs;rw [← List.take_append_drop i t]
    rw [List.flatMap_append,List.length_append];omega
  refine Zo (fun hlt=>Za ?_) fun hge=>?_
  ·have hia:i<t.length:=by rw [Yk] at hlt;omega
   have hx:(Zd t)[(i:Int).toNat]?=some t[i]:=by
     rw [Int.toNat_natCast,getElem?_pos (Zd t) i (by rw [Yk];exact hia)]
     simp [Zd]
     rfl
   refine ⟨t[i],by omega,hx,Za ?_⟩
   have hstep:(t.take (i+1)).flatMap ZbD=(t.take i).flatMap ZbD++ZbD t[i]:=by
     rw [List.take_add_one,List.getElem?_eq_getElem hia,List.flatMap_append];simp
   have pl1:((t.take (i+1)).flatMap ZbD).length≤(t.flatMap ZbD).length:=by
     conv=>rhs;rw [← List.take_append_drop (i+1) t]
     rw [List.flatMap_append,List.length_append];omega
   rw [hstep,List.length_append] at pl1
   generalize hc:t[i]=c at hstep pl1
   have h6:=Zop c
   have done:∀ {h':Zc},Bld h' B T ((out++34::(t.take i).flatMap ZbD)++ZbD c)→BU B h2 h'→(∃ i_1:Nat,IntKind.wrap .i64 ((i:Int)+1)=i_1∧i_1≤t.length∧Bld h' B T (out++34::(t.take i_1).flatMap ZbD)∧BU B h h')∧(t.length - IntKind.wrap .i64 ((i:Int)+1)).toNat<(t.length - (i:Int)).toNat:=fun {h'} b' u'=>by
     rw [Ys (by omega) (by omega)]
     refine ⟨⟨i+1,rfl,by omega,?_,u2.trans u'⟩,by omega⟩
     rw [hstep]
     simpa using b'
   have sz2:(out++34::(t.take i).flatMap ZbD).length+10<900000000:=by rw [List.length_append,List.length_cons];omega
   refine ZfC ?_
   rw [toU]
   show Zy (Lib.indexByte ctl c) _
   refine Za ?_
   refine ZC (fun p h'=>h'=h2∧(p.1=true↔c=34∨c=92)) ?_ ?_
   ·rintro ⟨b,u⟩ h3 ⟨rfl,hb3⟩
    dsimp only at hb3 ⊢
    cases hbb:b with
    | true =>
      have he:ZbD c=[92,c]:=by unfold ZbD;rw [if_pos (hb3.1 hbb)]
      refine Zp rfl (ZP (Zar (c:=92) b2 rfl (by omega) fun h4 b4 u4=>ZP (Zar (c:=c) b4 rfl (by simp at sz2 ⊢;omega) fun h5 b5 u5=>done ?_ (u4.trans u5))))
      rw [he]
      simpa using b5
    | false =>
      have hn:¬ (c=34∨c=92):=fun e=>by have:=hb3.2 e;rw [hbb] at this;cases this
      have n34:c≠34:=fun e=>hn (.inl e)
      have n92:c≠92:=fun e=>hn (.inr e)
      refine Zt rfl (Zg (Zo (fun hk0=>?_) fun hk0=>Zg (Zo (fun h32=>?_) fun h32=>?_)))
      ·have key:=ZpM c n34 n92 hk0
       cases hm:(⟨#[98,102,110,114,116]⟩:ByteArray)[(Lib.indexByte ctl c).toNat]? with
       | none=>rw [hm] at key;cases key
       | some m =>
         rw [hm] at key
         have he:ZbD c=[92,m]:=by simpa using key.symm
         refine ZP (Zar (c:=92) b2 rfl (by omega) fun h4 b4 u4=>ZP ⟨m,hk0,hm,Zar (c:=m) b4 rfl (by simp at sz2 ⊢;omega) fun h5 b5 u5=>done ?_ (u4.trans u5)⟩)
         rw [he]
         simpa using b5
      ·have he:=ZpL c n34 n92 (by omega) (by omega)
       have hi16:ZsA[(ZkN .u8 (c.toNat:Int) 4).toNat]?=some (ZmN (c.toNat / 16)):=by
         rw [ZoR ⟨c.toNat,c.toNat_lt⟩,Int.toNat_natCast]
         exact Zo2 ⟨c.toNat / 16,by omega⟩
       have lo16:ZsA[(ZkB .u8 (c.toNat:Int) 15).toNat]?=some (ZmN (c.toNat % 16)):=by
         rw [ZoQ ⟨c.toNat,c.toNat_lt⟩,Int.toNat_natCast]
         exact Zo2 ⟨c.toNat % 16,by omega⟩
       have p1:0≤ZkN .u8 (c.toNat:Int) 4:=by rw [ZoR ⟨c.toNat,c.toNat_lt⟩];omega
       have p2:0≤ZkB .u8 (c.toNat:Int) 15:=by rw [ZoQ ⟨c.toNat,c.toNat_lt⟩];omega
       refine ZP (ZlD b2 (s:=Zd [92,117,48,48]) (by rw [Yk];simp at sz2 ⊢;omega) fun h4 b4 u4=>ZP ⟨by decide,_,p1,hi16,?_⟩)
       refine Zar b4 rfl (by simp at sz2 ⊢;omega) fun h5 b5 u5=>ZP ⟨_,p2,lo16,?_⟩
       refine Zar b5 rfl (by simp at sz2 ⊢;omega) fun h6 b6 u6=>done ?_ ((u4.trans u5).trans u6)
       rw [he]
       simpa using b6
      ·have he:=Zoo c n34 n92 (by omega) (by omega)
       refine ZP (Zar (c:=c) b2 rfl (by omega) fun h4 b4 u4=>done ?_ u4)
       rw [he];exact b4
   ·refine Zvf 34 rfl (fun e=>⟨rfl,by simp [e]⟩) fun n34=>Zg ⟨rfl,?_⟩
    simp only [n34,false_or]
    constructor
    ·intro hb;exact ZdG (d:=92) (beq_iff_eq.1 hb)
    ·rintro rfl;rfl
  ·have hil:i=t.length:=by rw [Yk] at hge;omega
   subst hil
   rw [List.take_length] at b2
   refine ZP (Zar (c:=34) b2 rfl (by rw [List.length_append,List.length_cons];omega) fun h3 b3 u3=>hk h3 ?_ (u2.trans u3))
   simpa [Zcj] using b3
end
def Znm (f60:ZjJ) (v:JV):Prop:=∀ {h:Zc} {B:Nat} {out:BL} {z:VT5} {S:Nat→Prop} {K:HP},Zbn h S z v→(∀ j,S j→j<B)→Bld h B 190 out→(v.k=7→v.ns.length=v.sub.len)→okN v.sub→out.length+(XP v).length<800000000 →
  (∀ h' out',Bld h' B 190 out'→WR out (XP v) out'→out.length≤out'.length→out'.length≤out.length+(XP v).length→BU B h h'→K h')→f60 (At B) z K h
theorem Zje {ob:Bool} {first:Bool} {ns:List BL} {k:Nat} {t:BL} {ns':List BL} {sub rest:JL}:ZN ob first ns (.cons k t ns' sub rest)=ZiX first++nmB ob ns++XP ⟨k,t,ns',sub⟩++ZN ob false ns.tail rest:=rfl
theorem ZfI {h:Zc} {B:Nat} {T:TypeId} {out:BL} (hb:Bld h B T out) {j:Nat} (hj:ZlA h B j):B≤j∧j<sz h:=by
  have hlt:=hb.lt
  obtain ⟨hT,c,x,b,hc,hx⟩:=hb
  rcases (Zdx b).1 hj with h9 | h9
  ·omega
  ·have:=hx.lt h9;omega
theorem Zkj {h h':Zc} {B:Nat} {T:TypeId} {out:BL} (hb:Bld h B T out) (e:Ext h h') {j:Nat} (hj:ZlA h' B j):ZlA h B j:=by
  rcases hj with h9 | ⟨c,x,T',h9,h8⟩
  ·exact .inl h9
  ·rw [Ym e hb.lt] at h9
   exact .inr ⟨c,x,T',h9,h8⟩
theorem ZeY {f60:ZjJ} {v:JV} (hsub:∀ i k t ns s r,v.sub.drop i = .cons k t ns s r→Znm f60 ⟨k,t,ns,s⟩):Znm (Y7 f60) v:=by
  intro h B out z S K hv hS hb hns7 hok hlen hk
  unfold Y7 XZ
  have hBs:=hb.lt
  have hs:sz h=h.size:=rfl
  refine ZbP fun h1 c1 e1 z1=>ZP ?_
  have c1':obj h1 h.size=some (.cells (XE z).toArray 33 (0,0)):=c1
  have b1:Bld h1 B 190 out:=hb.congr fun j _ hl=>Ym e1 hl
  have u01:BU B h h1:=Ext.bu e1 hBs
  have f1:¬ ZlA h1 B h.size:=fun h9=>by
    rcases h9 with h8 | ⟨c,x,T,h8,h7⟩
    ·omega
    ·rw [Ym e1 hBs] at h8
     have:=(ZfI hb (.inr ⟨c,x,T,h8,h7⟩)).2
     omega
  refine Zj9 b1 (Zo (fun hbig=>?_) fun hsmall=>?_)
  ·refine hk h1 out b1 (.inr ⟨by omega,by simp;omega⟩) (Nat.le_refl _) (by omega) u01
  have e_:∀ {n:Nat} {A B:Prop},(v.k=n→A)→(v.k≠n→B)→ZK (z.1 ==(n:Int)) fun t=>ZD t A B:=fun {n A B} ha hb=>by
    rw [hv.1]
    exact Zg (Xn (fun e=>ha (by omega)) fun e=>hb (by omega))
  have hp:XP v=prV v.k v.t (ZN (decide (v.k=7)) true v.ns v.sub):=rfl
  have write:∀ {w:ByteArray} {wl:BL} {Kw:Int→Value→HP},w.data.toList=wl→XP v=wl→(∀ i e h',Kw i e h'=K h')→Zk (At B) w Kw h1:=fun {w wl Kw} hw hpw hK =>
    ZlD b1 (by have:w.size=wl.length:=by rw [← hw];simp
               rw [← hpw] at this;omega) fun h' b' u'=>by
     rw [hK]
     rw [hw,← hpw] at b'
     exact hk h' _ b' (.inl rfl) (by simp) (by simp) (u01.trans u')
  refine rI (Zm c1' rfl) (e_ (n:=1) (fun e=>ZP (write (wl:=[110,117,108,108]) rfl (by rw [hp,e];rfl) fun _ _ _=>rfl)) fun n1=>e_ (n:=2) (fun e=>ZP (write (wl:=[102,97,108,115,101]) rfl (by rw [hp,e];rfl) fun _ _ _=>rfl)) fun n2 =>
    e_ (n:=3) (fun e=>ZP (write (wl:=[116,114,117,101]) rfl (by rw [hp,e];rfl) fun _ _ _=>rfl)) fun n3=>e_ (n:=4) (fun e=>ZP (rS (Zm c1' rfl) (write (wl:=v.t) (by rw [hv.2.1]) (by rw [hp,e];rfl) fun _ _ _=>rfl))) fun n4=>e_ (n:=5) (fun e=>?_) fun n5=>?_)
  ·refine rS (Zm c1' rfl) ?_
   rw [hv.2.1]
   have hpq:XP v=Zcj v.t:=by rw [hp,e];rfl
   rw [hpq] at hlen hk
   exact Zgq b1 hlen fun h' b' u'=>hk h' _ b' (.inl rfl) (by simp) (by simp) (u01.trans u')
  ·
   have hpl:XP v=(if v.k=7 then 123 else 91)::(ZN (decide (v.k=7)) true v.ns v.sub++[if v.k=7 then 125 else 93]):=by
     rw [hp]
     unfold prV
     rw [if_neg n1,if_neg n2,if_neg n3,if_neg n4,if_neg n5]
     split<;>rfl
   have hll:(XP v).length=(ZN (decide (v.k=7)) true v.ns v.sub).length+2:=by rw [hpl];simp
   generalize hop:(if v.k=7 then 123 else 91:UInt8)=op at hpl
   generalize hcl:(if v.k=7 then 125 else 93:UInt8)=cl at hpl
   refine ZC (fun p h'=>h'=h1∧p.1=Zd [op,cl]) ?_ ?_
   ·rintro ⟨ends,u⟩ h2 ⟨rfl,hends⟩
    dsimp only at hends ⊢
    subst hends
    refine ZP ⟨op,by omega,rfl,?_⟩
    refine Zar b1 rfl (by omega) fun h3 b3 u3=>?_
    obtain ⟨c3,f3⟩:=u3.keep c1' f1
    refine rL (s:=z.2.2.1) (Zm c3 rfl) ?_
    obtain ⟨a1,a2,a3,a4,cx,a5,a6,a7⟩:=id hv
    have hlx:z.2.2.1.len=v.sub.len:=by have:=a5.len;have:=a7.len;omega
    have hbig:=a5.big
    have hcap:=a5.cap
    have keepS:∀ {a:Zc},BU B h a→∀ j,S j→j<sz h→obj a j=obj h j:=fun u j hj hl=>Yt u.upd hl fun h9=>by have:=(ZfI hb h9).1;have:=hS j hj;omega
    refine ZL (fun p h'=>∃ (i:Nat) (q o':BL),p.1=i∧i≤v.sub.len∧Bld h' B 190 o'∧WR (out++[op]) q o'∧(out++[op]).length≤o'.length∧o'.length≤(out++[op]).length+q.length∧BU B h3 h' ∧
        ZN (decide (v.k=7)) true v.ns v.sub=q++ZN (decide (v.k=7)) (decide (i=0)) (v.ns.drop i) (v.sub.drop i)) (fun p _=>(v.sub.len - p.1).toNat)
      ⟨0,[],out++[op],rfl,Nat.zero_le _,b3,WR.refl _,Nat.le_refl _,by simp,BU.refl _ _,rfl⟩ ?_
    rintro ⟨i0,u⟩ h4 ⟨i,q,o',hi,hle,b4,w4,l4,l4',u4,q4⟩
    dsimp only at hi ⊢
    subst hi
    obtain ⟨c4,f4⟩:=u4.keep c3 f3
    have u04:=u01.trans (u3.trans u4)
    refine Zo (fun hlt=>?_) fun hge=>?_
    ·have hia:i<v.sub.len:=by omega
     obtain ⟨k,t,ns,s,r,hd⟩:=JL.drop_cons hia
     have hpd:=Zje (ob:=decide (v.k=7)) (first:=decide (i=0)) (ns:=v.ns.drop i) (k:=k) (t:=t) (ns':=ns) (sub:=s) (rest:=r)
     rw [hd,hpd] at q4
     have hqlen:=congrArg List.length q4
     simp only [List.length_append] at hqlen
     have ra:Row h4 z.2.2.1 4 cx:=Xl a5 a6 (keepS u04)
     have la:X4 h4 S v.sub cx:=a7.keep (keepS u04) fun j hj=>hj
     refine Zfx ra la hd rfl fun zi hzi=>?_
     refine ZbP fun h5 c5 e5 z5=>Za ?_
     have c5':obj h5 h4.size=some (.cells zV.toArray 33 (0,0)):=c5
     have hs4:sz h4=h4.size:=rfl
     have B4:=b4.lt
     refine ZnI c5' (by simp) (Zcp zi) fun h6 c6 u6 z6=>?_
     have c6':obj h6 h4.size=some (.cells (XE zi).toArray 33 (0,0)):=c6
     have e46:Ext h4 h6:=e5.updS u6 fun j hj=>by omega
     have b6:Bld h6 B 190 o':=b4.congr fun j _ hl=>Ym e46 hl
     have ft6:¬ ZlA h6 B h4.size:=fun h9=>by have:=(ZfI b4 (Zkj b4 e46 h9)).2;omega
     have fv6:¬ ZlA h6 B h.size:=fun h9=>f4 (Zkj b4 e46 h9)
     have cv6:obj h6 h.size=some (.cells (XE z).toArray 33 (0,0)):=YK c4 e46
     have u06:=u04.trans (Ext.bu e46 B4)
     have hqs:∀ (x:BL),(out++[op]).length+(q++x).length=out.length+1+q.length+x.length:=fun x=>by simp;omega
     refine ZC (fun _ h'=>∃ o7,Bld h' B 190 o7∧WR (out++[op]) (q++ZiX (decide (i=0))) o7∧(out++[op]).length≤o7.length∧o7.length≤(out++[op]).length+(q++ZiX (decide (i=0))).length∧BU B h6 h') ?_ ?_
     ·rintro ⟨⟩ h7 ⟨o7,b7,w7,l7,l7',u7⟩
      obtain ⟨cv7,fv7⟩:=u7.keep cv6 fv6
      obtain ⟨ct7,ft7⟩:=u7.keep c6' ft6
      have u07:=u06.trans u7
      refine ZC (fun _ h'=>∃ o8,Bld h' B 190 o8∧WR (out++[op]) (q++ZiX (decide (i=0))++nmB (decide (v.k=7)) (v.ns.drop i)) o8∧(out++[op]).length≤o8.length∧o8.length≤(out++[op]).length+(q++ZiX (decide (i=0))++nmB (decide (v.k=7)) (v.ns.drop i)).length∧BU B h7 h') ?_ ?_
      ·rintro ⟨⟩ h8 ⟨o8,b8,w8,l8,l8',u8⟩
       obtain ⟨ct8,ft8⟩:=u8.keep ct7 ft7
       have u08:=u07.trans u8
       refine rI (Zm ct8 rfl) (rS (Zm ct8 rfl) (rL (s:=zi.2.2.1) (Zm ct8 rfl) (rL (s:=zi.2.2.2.1) (Zm ct8 rfl) ?_)))
       have hokd:=Zj1 i hok hd
       refine hsub i k t ns s r hd (S:=S) (hzi.keep (fun j hj hl=>?_) fun j hj=>hj) hS b8 hokd.1 hokd.2 (by simp only [List.length_append,List.length_singleton] at l8' ⊢;omega) fun h9 o9 b9 w9 l9 l9' u9=>?_
       ·have u48:=(Ext.bu e46 B4).trans (u7.trans u8)
        exact Yt u48.upd hl fun h9=>by have:=(ZfI b4 h9).1;have:=hS j hj;omega
       ·rw [Ys (by omega) (by omega)]
        refine ⟨⟨i+1,q++ZiX (decide (i=0))++nmB (decide (v.k=7)) (v.ns.drop i)++XP ⟨k,t,ns,s⟩,o9,rfl,by omega,b9,WR.trans w8 w9 l9,by omega,?_,(Ext.bu e46 B4 |> u4.trans).trans ((u7.trans u8).trans u9),?_⟩,by omega⟩
        ·simp only [List.length_append,List.length_singleton] at l8' l9' ⊢;omega
        ·rw [q4,JL.drop_succ i _ hd]
         simp
      ·refine rI (Zm cv7 rfl) ?_
       rw [hv.1]
       refine Xn (fun e7=>?_) fun e7=>?_
       ·have k7:v.k=7:=by omega
        have hnl:=hns7 k7
        have hin:i<v.ns.length:=by omega
        refine rL (s:=z.2.2.2.1) (Zm cv7 rfl) (ZhI (Xl a3 a4 (keepS u07)) (List.getElem?_eq_getElem hin) rfl ?_)
        have hnm:nmB (decide (v.k=7)) (v.ns.drop i)=Zcj v.ns[i]++[58]:=by
          rw [decide_eq_true k7,List.drop_eq_getElem_cons hin];rfl
        rw [hnm] at hqlen ⊢
        simp only [List.length_append,List.length_singleton] at hqlen l7'
        refine Zgq b7 (by omega) fun h8 b8 u8=>ZP (Zar (c:=58) b8 rfl (by simp only [List.length_append];omega) fun h9 b9 u9=>?_)
        refine ⟨_,b9,?_,?_,?_,u8.trans u9⟩
        ·have:o7++Zcj v.ns[i]++[58]=o7++(Zcj v.ns[i]++[58]):=by simp
         rw [this]
         exact WR.trans w7 (.inl rfl) (by simp)
        ·simp only [List.length_append,List.length_singleton];simp only [List.length_append,List.length_singleton] at l7;omega
        ·simp only [List.length_append,List.length_singleton];omega
       ·have hnm:nmB (decide (v.k=7)) (v.ns.drop i)=[]:=by
          rw [decide_eq_false (show ¬ v.k=7 by omega)];rfl
        rw [hnm,List.append_nil]
        exact ⟨o7,b7,w7,l7,l7',BU.refl _ _⟩
     ·refine Zo (fun hpos=>?_) fun hpos=>?_
      ·have hsep:ZiX (decide (i=0))=[44]:=by rw [decide_eq_false (show ¬ i=0 by omega)];rfl
       rw [hsep] at hqlen ⊢
       simp only [List.length_append,List.length_singleton] at l4' hqlen
       refine ZP (Zar (c:=44) b6 rfl (by omega) fun h7 b7 u7=>⟨_,b7,WR.trans w4 (.inl rfl) (by simp),?_,?_,u7⟩)
       ·simp only [List.length_append,List.length_singleton];simp only [List.length_append,List.length_singleton] at l4;omega
       ·simp only [List.length_append,List.length_singleton];omega
      ·have hsep:ZiX (decide (i=0))=[]:=by rw [decide_eq_true (show i=0 by omega)];rfl
       rw [hsep,List.append_nil]
       exact ⟨o',b6,w4,l4,l4',BU.refl _ _⟩
    ·have hin:i=v.sub.len:=by omega
     rw [JL.drop_nil (by omega)] at q4
     have q5:ZN (decide (v.k=7)) true v.ns v.sub=q:=by rw [q4];simp [ZN]
     have hql:q.length=(ZN (decide (v.k=7)) true v.ns v.sub).length:=by rw [q5]
     simp only [List.length_append,List.length_singleton] at l4 l4'
     refine ZP ⟨cl,by omega,rfl,Zar b4 rfl (by omega) fun h9 b9 u9=>?_⟩
     refine hk h9 _ b9 ?_ (by simp only [List.length_append];omega) (by simp only [List.length_append,List.length_singleton];omega) (u04.trans u9)
     have hpj:XP v=[op]++q++[cl]:=by rw [hpl,q5];simp
     rw [hpj]
     rcases w4 with e4 | ⟨g1,g2⟩
     ·left;rw [e4];simp
     ·right
      simp only [List.length_append,List.length_singleton] at g2 ⊢
      omega
   ·refine rI (Zm c1' rfl) ?_
    rw [hv.1]
    refine Xn (fun e=>⟨rfl,?_⟩) fun e=>⟨rfl,?_⟩
    ·have:v.k=7:=by omega
     rw [← hop,← hcl,if_pos this,if_pos this]
    ·have:v.k≠7:=by omega
     rw [← hop,← hcl,if_neg this,if_neg this]
end Go.Proofs.YtpjbjdheeemdiaaGreatDoor
namespace Go.Js
open Go
theorem ZfB {l:JL}:l.isNil=true↔l = .nil:=by cases l<;>simp [JL.isNil]
theorem Ziy {t:BL}:Zp0 t=true↔Zc4 t = .ok () []∧t.length≤65536:=by
  constructor
  ·intro h
   unfold Zp0 at h
   cases hp:Xm t with
   | err e k=>rw [hp] at h;cases h
   | ok v =>
     rw [hp] at h
     simp only [Bool.and_eq_true,decide_eq_true_eq] at h
     obtain ⟨hk,ht⟩:=h
     have hl:=(Zdq hp).2.2
     refine ⟨?_,hl⟩
     rw [ZbX hl] at hp
     cases h1:ZI 64 t with
     | err e r=>rw [h1] at hp;cases hp
     | ok w r =>
       rw [h1] at hp
       simp only at hp
       split at hp
       ·cases hp
        have hv:∀ {op:Bool→BL→Out JV},(∀ b c l w r,op b (c::l) = .ok w r→w.k≠4)→Za4 op t = .ok v r→Zc4 t = .ok () []:=by
          intro op hop hg
          unfold Za4 at hg
          split at hg
          ·cases hg
          ·rename_i c l1 e
           have hs:=Zbq t
           rw [e] at hs
           split at hg
           ·exact absurd hk (hop _ _ _ _ _ hg)
           split at hg
           ·exact absurd hk (hop _ _ _ _ _ hg)
           split at hg
           ·obtain ⟨_,_,_,h2⟩:=ZJ hg;cases h2;cases hk
           split at hg
           ·obtain ⟨_,_,_,h2⟩:=ZJ hg;cases h2;cases hk
           split at hg
           ·obtain ⟨_,_,_,h2⟩:=ZJ hg;cases h2;cases hk
           split at hg
           ·obtain ⟨_,_,_,h2⟩:=ZJ hg;cases h2;cases hk
           split at hg
           ·obtain ⟨_,r1,h3,h2⟩:=ZJ hg
            cases h2
            simp only at ht
            have hsuf:=ZeQ.sf.suf h3
            obtain ⟨x,hx⟩:=hsuf
            have hu:Zf7 (c::l1) r=x:=by rw [← hx,XR]
            rw [hu] at ht
            have hlen:=congrArg List.length hx
            rw [ht,List.length_append] at hlen
            have hr0:r=[]:=List.eq_nil_of_length_eq_zero (by omega)
            subst hr0
            rw [List.append_nil] at hx
            rw [← ht,hx];exact h3
           ·cases hg
        refine hv (op:=Zit (ZI 63)) (fun b c l w r h9=>?_) h1
        obtain ⟨p,r9,_,h8⟩:=ZJ h9
        cases h8
        cases b<;>simp
       ·cases hp
  ·rintro ⟨h1,h2⟩
   have hr:Zcy 64 ⟨4,t,[],.nil⟩:=⟨.inr (.inl ⟨rfl,h1,h2,rfl,rfl⟩),trivial,trivial⟩
   have:=Zk6 (v:=⟨4,t,[],.nil⟩) hr h2
   have e:XP ⟨4,t,[],.nil⟩=t:=rfl
   rw [e] at this
   unfold Zp0
   rw [this];simp
theorem ZlJ {k:Nat} {t:BL} {ns:List BL} {sub:JL}:whB k t ns sub=true↔Zci k t ns sub:=by
  unfold whB Zci
  by_cases h1:k=1∨k=2∨k=3
  ·rw [if_pos h1]
   simp only [Bool.and_eq_true,decide_eq_true_eq,ZfB]
   constructor
   ·rintro ⟨a,b,c⟩;exact .inl ⟨h1,a,c,b⟩
   ·rintro (⟨_,a,b,c⟩ | ⟨a,_⟩ | ⟨a,_⟩ | ⟨a,_⟩ | ⟨a,_⟩)
    ·exact ⟨a,c,b⟩
    all_goals omega
  rw [if_neg h1]
  by_cases h4:k=4
  ·rw [if_pos h4]
   simp only [Bool.and_eq_true,decide_eq_true_eq,ZfB,Ziy]
   constructor
   ·rintro ⟨⟨a,a'⟩,b,c⟩;exact .inr (.inl ⟨h4,a,a',c,b⟩)
   ·rintro (⟨a,_⟩ | ⟨_,a,a',b,c⟩ | ⟨a,_⟩ | ⟨a,_⟩ | ⟨a,_⟩)
    ·exact absurd a h1
    ·exact ⟨⟨a,a'⟩,c,b⟩
    all_goals omega
  rw [if_neg h4]
  by_cases h5:k=5
  ·rw [if_pos h5]
   simp only [Bool.and_eq_true,decide_eq_true_eq,ZfB,Ze5]
   constructor
   ·rintro ⟨a,b,c⟩;exact .inr (.inr (.inl ⟨h5,a,c,b⟩))
   ·rintro (⟨a,_⟩ | ⟨a,_⟩ | ⟨_,a,b,c⟩ | ⟨a,_⟩ | ⟨a,_⟩)
    ·exact absurd a h1
    ·omega
    ·exact ⟨a,c,b⟩
    all_goals omega
  rw [if_neg h5]
  by_cases h6:k=6
  ·rw [if_pos h6]
   simp only [Bool.and_eq_true,decide_eq_true_eq]
   constructor
   ·rintro ⟨a,b⟩;exact .inr (.inr (.inr (.inl ⟨h6,a,b⟩)))
   ·rintro (⟨a,_⟩ | ⟨a,_⟩ | ⟨a,_⟩ | ⟨_,a,b⟩ | ⟨a,_⟩)
    ·exact absurd a h1
    ·omega
    ·omega
    ·exact ⟨a,b⟩
    ·omega
  rw [if_neg h6]
  by_cases h7:k=7
  ·rw [if_pos h7]
   simp only [Bool.and_eq_true,decide_eq_true_eq,List.all_eq_true,Ze5]
   constructor
   ·rintro ⟨a,b,c⟩;exact .inr (.inr (.inr (.inr ⟨h7,a,b,c⟩)))
   ·rintro (⟨a,_⟩ | ⟨a,_⟩ | ⟨a,_⟩ | ⟨a,_⟩ | ⟨_,a,b,c⟩)
    ·exact absurd a h1
    ·omega
    ·omega
    ·omega
    ·exact ⟨a,b,c⟩
  rw [if_neg h7]
  constructor
  ·intro h;cases h
  ·rintro (⟨a,_⟩ | ⟨a,_⟩ | ⟨a,_⟩ | ⟨a,_⟩ | ⟨a,_⟩)
   ·exact absurd a h1
   all_goals omega
theorem Zef {k:Nat} {t:BL} {ns:List BL} {sub:JL} (h:Zci k t ns sub) (h6:k≠6) (h7:k≠7):sub = .nil:=by
  rcases h with ⟨_,_,_,h⟩ | ⟨_,_,_,_,h⟩ | ⟨_,_,_,h⟩ | ⟨h,_⟩ | ⟨h,_⟩
  ·exact h
  ·exact h
  ·exact h
  ·exact absurd h h6
  ·exact absurd h h7
theorem ZbE:∀ (l:JL) (d n dp n' dp':Nat),d≤64→Xz whB d l n dp=(true,n',dp')→dp'≤64→ZaP (64 - d) l∧n'=n+Zco l∧dp≤dp'
  | .nil,d,n,dp,n',dp',hd,h,hp=>by
    cases h
    exact ⟨by cases 64 - d<;>exact trivial,rfl,Nat.le_refl _⟩
  | .cons k t ns sub rest,d,n,dp,n',dp',hd,h,hp=>by
    simp only [Xz] at h
    split at h
    ·cases h
    split at h
    ·cases h
    rename_i hb hw
    have hK:Zci k t ns sub:=ZlJ.1 (by simpa using hw)
    split at h
    ·rename_i h67
     obtain ⟨a,b,c⟩:=ZbE rest d (n+1) dp n' dp' hd h hp
     have hnil:=Zef hK h67.1 h67.2
     subst hnil
     refine ⟨?_,by simp only [Zco];omega,c⟩
     cases hd9:64 - d with
     | zero=>rw [hd9] at a;exact ⟨hK,h67.1,h67.2,a⟩
     | succ m=>rw [hd9] at a;exact ⟨hK,by cases m<;>exact trivial,a⟩
    split at h
    ·obtain ⟨a,b,c⟩:=ZbE rest d (n+1) _ n' dp' hd h hp
     omega
    rename_i h67 h64
    split at h
    ·rename_i hs
     have hsub:Xz whB (d+1) sub (n+1) (max dp (d+1))=(true,(Xz whB (d+1) sub (n+1) (max dp (d+1))).2.1,(Xz whB (d+1) sub (n+1) (max dp (d+1))).2.2):=by rw [← hs]
     obtain ⟨a,b,c⟩:=ZbE rest d _ _ n' dp' hd h hp
     obtain ⟨a2,b2,c2⟩:=ZbE sub (d+1) (n+1) (max dp (d+1)) _ _ (by omega) hsub (by omega)
     refine ⟨?_,by simp only [Zco];omega,by omega⟩
     obtain ⟨m,hm⟩:∃ m,64 - d=m+1:=⟨64 - d - 1,by omega⟩
     rw [hm] at a ⊢
     rw [show 64 - (d+1)=m by omega] at a2
     exact ⟨hK,a2,a⟩
    ·rename_i hs
     rw [h] at hs
     exact absurd rfl hs
theorem ZcZ:∀ (l:JL) (d n dp:Nat),d≤64→ZaP (64 - d) l→n+Zco l≤65536→dp≤64→∃ dp',Xz whB d l n dp=(true,n+Zco l,dp')∧dp'≤64
  | .nil,d,n,dp,_,_,_,hp=>⟨dp,rfl,hp⟩
  | .cons k t ns sub rest,d,n,dp,hd,h,hn,hp=>by
    simp only [Zco] at hn
    have hK:Zci k t ns sub:=by cases hd9:64 - d<;>rw [hd9] at h<;>exact h.1
    have hR:ZaP (64 - d) rest:=by
      cases hd9:64 - d with
      | zero=>rw [hd9] at h;exact h.2.2.2
      | succ m=>rw [hd9] at h;exact h.2.2
    simp only [Xz]
    rw [if_neg (by omega),if_neg (by simp [ZlJ.2 hK])]
    by_cases h67:k≠6∧k≠7
    ·have hnil:=Zef hK h67.1 h67.2
     subst hnil
     rw [if_pos h67]
     obtain ⟨dp',a,b⟩:=ZcZ rest d (n+1) dp hd hR (by simp only [Zco] at hn;omega) hp
     exact ⟨dp',by rw [a];simp only [Zco];congr 2;omega,b⟩
    ·rw [if_neg h67]
     obtain ⟨m,hm⟩:∃ m,64 - d=m+1:=by
       cases hd9:64 - d with
       | zero=>rw [hd9] at h;exact absurd ⟨h.2.1,h.2.2.1⟩ h67
       | succ m=>exact ⟨m,rfl⟩
     rw [if_neg (by omega)]
     rw [hm] at h
     obtain ⟨dp',a,b⟩:=ZcZ sub (d+1) (n+1) (max dp (d+1)) (by omega) (by rw [show 64 - (d+1)=m by omega];exact h.2.1) (by omega) (by omega)
     rw [a,if_pos rfl]
     obtain ⟨dp2,a2,b2⟩:=ZcZ rest d (n+1+Zco sub) dp' hd hR (by omega) b
     exact ⟨dp2,by rw [a2];simp only [Zco];congr 2;omega,b2⟩
theorem Zc1:∀ {d:Nat} {l:JL},ZaP d l→okN l
  | _,.nil,_=>trivial
  | 0,.cons k t ns sub rest,h=>by
    have:=Zef h.1 h.2.1 h.2.2.1
    subst this
    exact ⟨fun e=>absurd e h.2.2.1,trivial,Zc1 h.2.2.2⟩
  | d+1,.cons k t ns sub rest,h=>by
    refine ⟨fun e=>?_,Zc1 h.2.1,Zc1 h.2.2⟩
    rcases h.1 with ⟨hk,_⟩ | ⟨hk,_⟩ | ⟨hk,_⟩ | ⟨hk,_⟩ | ⟨_,_,hl,_⟩
    ·omega
    ·omega
    ·omega
    ·omega
    ·exact hl
def ZbF:Nat→JL→Nat→Nat
  | _,.nil,n=>n
  | m,.cons _ _ _ sub rest,n=>if m<n then n else ZbF m rest (n+ZbF (m - n) sub 1)
theorem Zdl:∀ (l:JL) (m n:Nat),ZbF m l n≤max n (m+1)∧n≤ZbF m l n
  | .nil,m,n=>⟨by show n≤_;omega,Nat.le_refl _⟩
  | .cons _ _ _ sub rest,m,n=>by
    simp only [ZbF]
    split
    ·exact ⟨by omega,Nat.le_refl _⟩
    ·have h1:=Zdl sub (m - n) 1
     have h2:=Zdl rest m (n+ZbF (m - n) sub 1)
     exact ⟨by omega,by omega⟩
theorem Zhh:∀ (l:JL) (m n:Nat),n≤m→(ZbF m l n≤m↔n+Zco l≤m)∧(n+Zco l≤m→ZbF m l n=n+Zco l)
  | .nil,m,n,h=>⟨Iff.rfl,fun _=>rfl⟩
  | .cons _ _ _ sub rest,m,n,h=>by
    simp only [ZbF,Zco]
    rw [if_neg (by omega)]
    by_cases h1:1≤m - n
    ·have hs:=Zhh sub (m - n) 1 h1
     have hsl:=Zdl sub (m - n) 1
     by_cases h2:1+Zco sub≤m - n
     ·have e:=hs.2 h2
      rw [e]
      have hr:=Zhh rest m (n+(1+Zco sub)) (by omega)
      exact ⟨by rw [hr.1];omega,fun h9=>by rw [hr.2 (by omega)];omega⟩
     ·have h3:¬ ZbF (m - n) sub 1≤m - n:=fun h9=>h2 (hs.1.1 h9)
      have hr:=Zdl rest m (n+ZbF (m - n) sub 1)
      exact ⟨⟨fun h9=>by omega,fun h9=>by omega⟩,fun h9=>by omega⟩
    ·have hsl:=Zdl sub (m - n) 1
     have hr:=Zdl rest m (n+ZbF (m - n) sub 1)
     exact ⟨⟨fun h9=>by omega,fun h9=>by omega⟩,fun h9=>by omega⟩
end Go.Js
namespace Go.Proofs.YtpjbjdheeemdiaaGreatDoor
open Go Go.Fw Go.Js
theorem Zc2 {v:JV}:Zcz v=true↔Zcy 64 v∧Zf4 v≤65536:=by
  have hcnt:Zco (.cons v.k v.t v.ns v.sub .nil)=Zf4 v:=by simp [Zco,Zf4]
  unfold Zcz Zbl
  constructor
  ·intro h
   simp only [Bool.and_eq_true,decide_eq_true_eq] at h
   have e:Xz whB 0 (.cons v.k v.t v.ns v.sub .nil) 0 0=(true,(Xz whB 0 (.cons v.k v.t v.ns v.sub .nil) 0 0).2.1,(Xz whB 0 (.cons v.k v.t v.ns v.sub .nil) 0 0).2.2):=by rw [← h.1]
   obtain ⟨a,b,_⟩:=ZbE _ 0 0 0 _ _ (by omega) e h.2
   have hn:=(Za3 whB (.cons v.k v.t v.ns v.sub .nil) 0 0 0 (by omega)).2 h.1
   exact ⟨a,by omega⟩
  ·rintro ⟨a,b⟩
   obtain ⟨dp',e,h⟩:=ZcZ (.cons v.k v.t v.ns v.sub .nil) 0 0 0 (by omega) a (by omega) (by omega)
   rw [e]
   simp [h]
theorem ZeZ:∀ (m:Nat) (v:JV),v.sub.hei≤m→Znm (Z8 (m+1)) v
  | 0,v,hm=>ZeY (f60:=Z8 0) fun i k t ns s r hd=>by have:=JL.drop_hei i v.sub hd;omega
  | m+1,v,hm=>ZeY (f60:=Z8 (m+1)) fun i k t ns s r hd=>ZeZ m ⟨k,t,ns,s⟩ (by have:=JL.drop_hei i v.sub hd;show s.hei≤m;omega)
theorem Zk1 {h:Zc} {z:VT5} {v:JV} {S:Nat→Prop} {K:ByteArray→Int→HP} (hv:Zbn h S z v) (hS:∀ j,S j→j<sz h) (hfit:Znw v) (hlen:(XP v).length<800000000) (ht:Zaq h) (hh:9≤sz h)
    (hk:∀ s e h',Ext h h'→(Zcz v=false→s=Zd []∧e=6)→(Zcz v=true→65536<(XP v).length→s=Zd []∧e=5)→(Zcz v=true→(XP v).length≤65536→s=Zd (XP v)∧e=0)→K s e h'):ZaH z K h:=by
  unfold ZaH ZcP
  have hs:sz h=h.size:=rfl
  refine ZbP fun h1 c1 e1 z1=>Za ?_
  have c1':obj h1 h.size=some (.cells (XE z).toArray 33 (0,0)):=c1
  have s1:sz h1=h1.size:=rfl
  refine rI (Zm c1' rfl) (rS (Zm c1' rfl) (rL (s:=z.2.2.1) (Zm c1' rfl) (rL (s:=z.2.2.2.1) (Zm c1' rfl) ?_)))
  have hS1:∀ j,S j→j<sz h1:=fun j hj=>Nat.lt_of_lt_of_le (hS j hj) e1.size
  refine ZgH (z:=z) (hv.ext hS e1) hS1 hfit (ht.ext e1) (by omega) fun h2 e2=>?_
  cases hr:Zcz v with
  | false =>
    refine Zp rfl (Za (hk _ _ h2 (e1.trans e2) (fun _=>⟨rfl,rfl⟩) (fun h=>by rw [hr] at h;cases h) fun h=>by rw [hr] at h;cases h))
  | true =>
    have hrj:=(Zc2.1 hr).1
    have hokn:=Zc1 hrj
    refine Zt rfl (ZbP fun h3 c3 e3 z3=>?_)
    have c1'':=YK (YK c1' e2) e3
    have s2:sz h2=h2.size:=rfl
    have s3:sz h3=h3.size:=rfl
    have b3:Bld h3 h2.size 190 []:=⟨.inr rfl,.pointer none,⟨none,0,0⟩,c3,.inl rfl,Buf.nil _ _⟩
    have e03:=(e1.trans e2).trans e3
    have hsz12:=e2.size
    refine rI (Zm c1'' rfl) (rS (Zm c1'' rfl) (rL (s:=z.2.2.1) (Zm c1'' rfl) (rL (s:=z.2.2.2.1) (Zm c1'' rfl) ?_)))
    refine ⟨v.sub.hei+1,ZeZ _ v (Nat.le_refl _) (z:=z) (S:=S) (hv.ext hS e03) (fun j hj=>by have:=hS j hj;omega) b3 hokn.1 hokn.2.1 (by simpa using hlen) fun h4 out b4 w4 l4 l4' u4=>?_⟩
    have e04:Ext h h4:=e03.updS u4.upd fun j hj=>by have:=(ZfI b3 hj).1;omega
    refine Zj9 b4 (Zo (fun hbig=>Za (hk _ _ h4 e04 (fun h=>by rw [hr] at h;cases h) (fun _ _=>⟨rfl,rfl⟩) fun _ hle=>?_)) fun hsm=>?_)
    ·rcases w4 with w4 | ⟨_,w4⟩
     ·rw [w4] at hbig;simp at hbig;omega
     ·simp at w4;omega
    ·have hw:out=XP v:=by
       rcases w4 with w4 | ⟨w4,_⟩
       ·simpa using w4
       ·omega
     refine Zfc b4 fun h5 u5=>Za (hk _ _ h5 (e04.updS u5 fun j hj=>by omega) (fun h=>by rw [hr] at h;cases h) (fun _ hgt=>?_) fun _ _=>⟨by rw [hw],rfl⟩)
     rw [hw] at hsm
     omega
theorem Zi0:∀ (m:Nat) {h:Zc} {z:VT5} {v:JV} {S:Nat→Prop} {most:Nat} {K:Int→HP},v.sub.hei≤m→Zbn h S z v→(∀ j,S j→j<sz h)→most≤65536→(∀ h',Ext h h'→K (ZbF most v.sub 1) h')→Y0 (m+1) z most K h:=by
  have step:∀ {f76:ZkE} {v:JV},(∀ i k t ns s r,v.sub.drop i = .cons k t ns s r→∀ {h:Zc} {z:VT5} {S:Nat→Prop} {most:Nat} {K:Int→HP},Zbn h S z ⟨k,t,ns,s⟩→(∀ j,S j→j<sz h)→most≤65536→(∀ h',Ext h h'→K (ZbF most s 1) h')→f76 z most K h) →
      ∀ {h:Zc} {z:VT5} {S:Nat→Prop} {most:Nat} {K:Int→HP},Zbn h S z v→(∀ j,S j→j<sz h)→most≤65536→(∀ h',Ext h h'→K (ZbF most v.sub 1) h')→ZaS f76 z most K h:=by
    intro f76 v hsub h z S most K hv hS hm hk
    unfold ZaS Zb6
    refine ZbP fun h1 c1 e1 z1=>Za (Za ?_)
    have c1':obj h1 h.size=some (.cells (XE z).toArray 33 (0,0)):=c1
    obtain ⟨a1,a2,a3,a4,cx,a5,a6,a7⟩:=id hv
    have hlx:z.2.2.1.len=v.sub.len:=by have:=a5.len;have:=a7.len;omega
    have hbig:=a5.big
    have hcap:=a5.cap
    refine rL (s:=z.2.2.1) (Zm c1' rfl) ?_
    refine ZL (fun p h'=>∃ n i:Nat,p.1=n∧p.2.1=i∧n≤65537∧i≤v.sub.len∧Ext h h'∧ZbF most v.sub 1=ZbF most (v.sub.drop i) n) (fun p _=>(v.sub.len - p.2.1).toNat) ⟨1,0,rfl,rfl,by omega,Nat.zero_le _,e1,rfl⟩ ?_
    rintro ⟨n0,i0,u⟩ h2 ⟨n,i,hn0,hi,hn,hle,e2,q2⟩
    dsimp only at hn0 hi ⊢
    subst hn0 hi
    refine Zo (fun hlt=>?_) fun hge=>Za ?_
    ·have hia:i<v.sub.len:=by omega
     obtain ⟨k,t,ns,s,r,hd⟩:=JL.drop_cons hia
     rw [hd] at q2
     simp only [ZbF] at q2
     have keepS:∀ {a:Zc},Ext h a→∀ j,S j→j<sz h→obj a j=obj h j:=fun e j hj hl=>Ym e hl
     refine Zfx (Xl a5 a6 (keepS e2)) (a7.keep (keepS e2) fun j hj=>hj) hd rfl fun zi hzi=>?_
     refine ZbP fun h3 c3 e3 z3=>?_
     have c3':obj h3 h2.size=some (.cells zV.toArray 33 (0,0)):=c3
     refine ZnI c3' (by simp) (Zcp zi) fun h4 c4 u4 z4=>?_
     have c4':obj h4 h2.size=some (.cells (XE zi).toArray 33 (0,0)):=c4
     have s2:sz h2=h2.size:=rfl
     have e24:Ext h2 h4:=e3.updS u4 fun j hj=>by omega
     refine Zo (fun hgt=>Za ?_) fun hle2=>?_
     ·rw [if_pos (by omega)] at q2
      have:=hk h4 (e2.trans e24)
      rw [q2] at this;exact this
     ·rw [if_neg (by omega)] at q2
      refine rI (Zm c4' rfl) (rS (Zm c4' rfl) (rL (s:=zi.2.2.1) (Zm c4' rfl) (rL (s:=zi.2.2.2.1) (Zm c4' rfl) ?_)))
      rw [Ys (n:=(most:Int) - n) (by omega) (by omega),show (most:Int) - n=((most - n:Nat):Int) by omega]
      have hvl:=Zdl s (most - n) 1
      refine hsub i k t ns s r hd (S:=S) (hzi.keep (fun j hj hl=>Ym e24 hl) fun j hj=>hj) (fun j hj=>by have:=hS j hj;have:=e2.size;have:=e24.size;have:sz h=h.size:=rfl;have:sz h4=h4.size:=rfl;omega) (by omega) fun h5 e5=>Za ?_
      rw [Ys (by omega) (by omega),Ys (by omega) (by omega)]
      exact ⟨⟨n+ZbF (most - n) s 1,i+1,rfl,rfl,by omega,by omega,(e2.trans e24).trans e5,by rw [q2,JL.drop_succ i _ hd]⟩,by omega⟩
    ·rw [JL.drop_nil (by omega)] at q2
     have:=hk h2 e2
     rw [q2] at this;exact this
  intro m
  induction m with
  | zero=>exact fun {h z v S most K} hm hv hS hmost hk=>step (f76:=Y0 0) (v:=v) (fun i k t ns s r hd=>by have:=JL.drop_hei i v.sub hd;omega) hv hS hmost hk
  | succ m ih=>exact fun {h z v S most K} hm hv hS hmost hk=>step (f76:=Y0 (m+1)) (v:=v) (fun i k t ns s r hd {h z S most K}=>ih (v:=⟨k,t,ns,s⟩) (by have:=JL.drop_hei i v.sub hd;show s.hei≤m;omega)) hv hS hmost hk
theorem ZkM {h:Zc} {z:VT5} {v:JV} {S:Nat→Prop} {K:Bool→HP} (hv:Zbn h S z v) (hS:∀ j,S j→j<sz h) (hk:∀ h',Ext h h'→K (decide (Zf4 v≤65536)) h'):ZaF z K h:=by
  unfold ZaF ZcM
  refine ZbP fun h1 c1 e1 z1=>?_
  have c1':obj h1 h.size=some (.cells (XE z).toArray 33 (0,0)):=c1
  refine rI (Zm c1' rfl) (rS (Zm c1' rfl) (rL (s:=z.2.2.1) (Zm c1' rfl) (rL (s:=z.2.2.2.1) (Zm c1' rfl) ?_)))
  refine ⟨v.sub.hei+1,Zi0 _ (most:=65536) (z:=z) (Nat.le_refl _) (hv.ext hS e1) (fun j hj=>Nat.lt_of_lt_of_le (hS j hj) e1.size) (by omega) fun h2 e2=>Zg ?_⟩
  have:=hk h2 (e1.trans e2)
  have hc:=(Zhh v.sub 65536 1 (by omega)).1
  rw [show decide (((ZbF 65536 v.sub 1:Nat):Int)≤65536)=decide (Zf4 v≤65536) by rw [decide_eq_decide];unfold Zf4;omega]
  exact this
def Zm2 (v:JV):Nat:=if Zf4 v≤65536∧(Zbl (fun _ _ _ _=>true) 0 v 0 0).1=true then (Zbl (fun _ _ _ _=>true) 0 v 0 0).2.2 else 0
theorem Zlq {h:Zc} {z:VT5} {v:JV} {S:Nat→Prop} {K:Int→HP} (hv:Zbn h S z v) (hS:∀ j,S j→j<sz h) (hfit:Znw v) (ht:Zaq h) (hh:9≤sz h) (hk:∀ h',Ext h h'→K (Zm2 v) h'):ZaJ z K h:=by
  unfold ZaJ ZcR
  have hs:sz h=h.size:=rfl
  refine ZbP fun h1 c1 e1 z1=>Za (ZbP fun h3 c3 e3 z3=>?_)
  have s1:sz h1=h1.size:=rfl
  have c1':obj h3 h.size=some (.cells (XE z).toArray 33 (0,0)):=YK c1 e3
  have e03:=e1.trans e3
  refine rI (Zm c1' rfl) (rS (Zm c1' rfl) (rL (s:=z.2.2.1) (Zm c1' rfl) (rL (s:=z.2.2.2.1) (Zm c1' rfl) ?_)))
  refine ZkM (z:=z) (hv.ext hS e03) (fun j hj=>Nat.lt_of_lt_of_le (hS j hj) e03.size) fun h9 e9=>?_
  have e09:=e03.trans e9
  unfold Zm2 at hk
  by_cases hc:Zf4 v≤65536
  ·rw [decide_eq_true hc]
   have c9:=YK c1' e9
   refine Zt rfl (rI (Zm c9 rfl) (rS (Zm c9 rfl) (rL (s:=z.2.2.1) (Zm c9 rfl) (rL (s:=z.2.2.2.1) (Zm c9 rfl) ?_))))
   refine ⟨v.sub.hei+1,Ze3 (rt:=fun _ _ _ _=>true) (.inr ⟨rfl,rfl⟩) _ v (Nat.le_refl _) (n:=0) (dp:=0) (d:=0) (z:=z) (hv.ext hS e09) (fun j hj=>⟨Nat.lt_of_lt_of_le (hS j hj) e09.size,by have:=hS j hj;omega⟩) hfit (ht.ext e09) (by omega) (YK c3 e9) (by omega) (by omega) (by omega) fun h8 hC8 u8=>?_⟩
   have key:=hk h8 (e09.updS u8 fun j hj=>by omega)
   cases hw:(Zbl (fun _ _ _ _=>true) 0 v 0 0).1 with
   | false=>rw [hw] at key;rw [if_neg (by simp)] at key;exact Zp rfl (Za key)
   | true=>rw [hw] at key;rw [if_pos ⟨hc,rfl⟩] at key;exact Zt rfl (rI (Zm hC8 rfl) (Za key))
  ·rw [decide_eq_false hc]
   have key:=hk h9 e09
   rw [if_neg fun h=>hc h.1] at key
   exact Zp rfl (Za key)
theorem Zk7 {h:Zc} {n:Int} (hn : -9223372036854775808≤n∧n≤9223372036854775807) (ht:Zaq h) {K:VT5→HP} (hk:∀ h',Ext h h'→K (4,Zd (Lib.itoa n),⟨none,0,0⟩,⟨none,0,0⟩,()) h'):ZaI n K h:=by
  unfold ZaI ZcQ
  refine ZbP fun h1 c1 e1 z1=>⟨ht.ext e1,hn.1,hn.2,fun h2 e2=>?_⟩
  have c1':obj h1 h.size=some (.cells zV.toArray 33 (0,0)):=c1
  have hs:sz h=h.size:=rfl
  exact Ze9 (x:=⟨none,0,0⟩) (y:=⟨none,0,0⟩) (YK c1' e2) rfl fun h3 u3 z3=>hk h3 ((e1.trans e2).updS u3 fun j hj=>by omega)
end Go.Proofs.YtpjbjdheeemdiaaGreatDoor
namespace Go.Js
open Go
def Asc (p:BL→Out Unit):Prop:=∀ l r,p l = .ok () r→∃ x,l=x++r∧∀ c∈x,c.toNat<128
theorem ZiF {c:UInt8} (h:XD c=true):c.toNat<128:=by
  unfold XD at h
  simp only [Bool.and_eq_true,decide_eq_true_eq] at h
  omega
theorem Zif:∀ (l:BL),∀ c∈l.takeWhile XD,c.toNat<128
  | [],c,h=>by cases h
  | d::l,c,h=>by
    rw [List.takeWhile_cons] at h
    split at h
    ·rename_i hd
     rcases List.mem_cons.1 h with h | h
     ·rw [h];exact ZiF hd
     ·exact Zif l c h
    ·cases h
theorem ZdA:Asc Z6:=by
  intro l r h
  rcases l with _ | ⟨c,l⟩
  ·cases h
  ·dsimp only [Z6] at h
   split at h
   ·rename_i hd
    cases h
    refine ⟨c::l.takeWhile XD,by simp,fun d hd2=>?_⟩
    rcases List.mem_cons.1 hd2 with h | h
    ·rw [h];exact ZiF hd
    ·exact Zif l d h
   ·cases h
theorem Zod:Asc ZeH:=by
  intro l r h
  rcases l with _ | ⟨c,l⟩
  ·cases h
  ·dsimp only [ZeH] at h
   split at h
   ·rename_i hc
    have:l=r:=by
      rcases l with _ | ⟨d,l⟩
      ·cases h;rfl
      ·dsimp only [XH] at h
       split at h
       ·cases h
       ·cases h;rfl
    subst this
    exact ⟨[c],rfl,fun d hd=>by rw [List.mem_singleton] at hd;rw [hd,hc];decide⟩
   ·exact ZdA _ _ h
theorem ZmS:Asc ZcS:=by
  intro l r h
  rcases l with _ | ⟨c,l⟩
  ·cases h;exact ⟨[],rfl,fun _ h=>by cases h⟩
  ·dsimp only [ZcS] at h
   split at h
   ·rename_i hc
    obtain ⟨x,hx,ha⟩:=ZdA _ _ h
    refine ⟨c::x,by rw [hx];rfl,fun d hd=>?_⟩
    rcases List.mem_cons.1 hd with h | h
    ·rw [h,hc];decide
    ·exact ha d h
   ·cases h;exact ⟨[],rfl,fun _ h=>by cases h⟩
theorem Zon:Asc ZeT:=by
  intro l r h
  rcases l with _ | ⟨c,l⟩
  ·cases h;exact ⟨[],rfl,fun _ h=>by cases h⟩
  ·dsimp only [ZeT] at h
   split at h
   ·rename_i hc
    have hc':c.toNat<128:=by rcases hc with hc | hc<;>rw [hc]<;>decide
    obtain ⟨x,hx,ha⟩:=ZdA _ _ h
    rcases l with _ | ⟨d,l⟩
    ·cases h
    ·dsimp only [Zd8] at hx
     split at hx
     ·rename_i hd
      have hd':d.toNat<128:=by rcases hd with hd | hd<;>rw [hd]<;>decide
      refine ⟨c::d::x,by rw [hx];rfl,fun e he=>?_⟩
      rcases List.mem_cons.1 he with h | h
      ·rw [h];exact hc'
      rcases List.mem_cons.1 h with h | h
      ·rw [h];exact hd'
      ·exact ha e h
     ·refine ⟨c::x,by rw [hx];rfl,fun e he=>?_⟩
      rcases List.mem_cons.1 he with h | h
      ·rw [h];exact hc'
      ·exact ha e h
   ·cases h;exact ⟨[],rfl,fun _ h=>by cases h⟩
theorem Zn3:Asc Zc4:=by
  intro l r h
  obtain ⟨l1,l2,h1,h2,h3⟩:=ZeR h
  obtain ⟨x1,e1,a1⟩:=Zod _ _ h1
  obtain ⟨x2,e2,a2⟩:=ZmS _ _ h2
  obtain ⟨x3,e3,a3⟩:=Zon _ _ h3
  have key:∀ c∈x1++(x2++x3),c.toNat<128:=fun c hc=>by
    rcases List.mem_append.1 hc with h | h
    ·exact a1 c h
    rcases List.mem_append.1 h with h | h
    ·exact a2 c h
    ·exact a3 c h
  rcases l with _ | ⟨c,l⟩
  ·cases h1
  ·dsimp only [Zap] at e1
   split at e1
   ·rename_i hc
    refine ⟨c::(x1++(x2++x3)),by rw [e1,e2,e3];simp,fun d hd=>?_⟩
    rcases List.mem_cons.1 hd with h | h
    ·rw [h,hc];decide
    ·exact key d h
   ·exact ⟨x1++(x2++x3),by rw [e1,e2,e3];simp,key⟩
def ZaV:BL→BL × Bool
  | c::l=>if c=45 then (l,true) else (c::l,false)
  | []=>([],false)
def Zeq:BL→BL
  | c::l=>if c=43 then l else c::l
  | []=>[]
def ZpJ (s:BL):Option Int:=if s=[] then some 0 else match Lib.atoiAll (Zeq s) with
  | .ok v=>if -1048576≤v∧v≤1048576 then some v else none
  | _=>none
def Zgr (t:BL):Option Int :=
  let m:=ZaV t
  let a:=Lib.cut (Lib.toLowerA m.1) [101]
  let b:=Lib.cut a.1 [46]
  let d:=Lib.trimLeftB (b.1++b.2.1) 48
  let g:=Lib.trimRightB d 48
  if g=[] then some 0 else match ZpJ a.2.1 with
  | none=>none
  | some y =>
    let y:=y+((d.length:Int) - g.length - b.2.1.length)
    if y<0 then none else if 20<y then none else match Lib.atoiAll ((if m.2=true then [45] else [])++(g++Lib.repeatL [48] y.toNat)) with
    | .ok v=>some v
    | _=>none
theorem ZiO:∀ l:BL,(ZaV l).1.length≤l.length
  | []=>Nat.le_refl _
  | c::l=>by dsimp only [ZaV];split<;>simp
theorem ZiN:∀ (l:BL) (c:UInt8),c∈(ZaV l).1→c∈l
  | [],c,h=>h
  | d::l,c,h=>by
    dsimp only [ZaV] at h
    split at h
    ·exact List.mem_cons_of_mem _ h
    ·exact h
theorem Zm4 (s p:BL):(Lib.cut s p).1.length≤s.length∧(Lib.cut s p).2.1.length≤s.length:=by
  unfold Lib.cut
  split
  ·exact ⟨by rw [List.length_take];omega,by rw [List.length_drop];omega⟩
  ·exact ⟨Nat.le_refl _,Nat.zero_le _⟩
theorem ZfP (p:UInt8→Bool):∀ l:BL,(l.dropWhile p).length≤l.length
  | []=>Nat.le_refl _
  | c::l=>by
    rw [List.dropWhile_cons]
    split
    ·have:=ZfP p l;simp;omega
    ·exact Nat.le_refl _
theorem ZlW (l:BL) (c:UInt8):(Lib.trimLeftB l c).length≤l.length:=ZfP _ l
theorem ZlV (l:BL) (c:UInt8):(Lib.trimRightB l c).length≤l.length:=by
  unfold Lib.trimRightB
  rw [List.length_reverse]
  have:=ZfP (· ==c) l.reverse
  rw [List.length_reverse] at this
  exact this
end Go.Js
namespace Go.Proofs.YtpjbjdheeemdiaaGreatDoor
open Go Go.Fw Go.Js
theorem Zmg {l:BL} {c:UInt8} {K:Bool→HP} {h:Zc} (hk:K (match l with | d::_=>decide (d=c) | []=>false) h):Zn (Zd l) (ByteArray.mk #[c]) K h:=by
  unfold Zn ZV
  have h2:(ByteArray.mk #[c]).size=1:=rfl
  rw [h2,Yk]
  rcases l with _ | ⟨a,l⟩
  ·exact Zt (by simp) hk
  ·refine Zp (by simp;omega) ⟨by omega,by omega,by rw [Yk];simp;omega,?_⟩
   have e:(Zd (a::l)).extract 0 1=Zd [a]:=by
     apply ByteArray.ext;simp [Zd]
   show ZK (ZaK ((Zd (a::l)).extract 0 1) _) _
   rw [e]
   refine Zg ?_
   have e2:ZaK (Zd [a]) (ByteArray.mk #[c])=decide (a=c):=by
     rw [show ByteArray.mk #[c]=Zd [c] from rfl,Xq]
     by_cases h:a=c
     ·rw [h];simp
     ·simp [h]
   rw [e2];exact hk
theorem ZsV {a:UInt8} {l:BL} {K:ByteArray→Prop} (hl:l.length<9223372036854775806) (hk:K (Zd l)):Zi3 (Zd (a::l)) ((1:Nat):Int) (Zd (a::l)).size K:=by
  refine ⟨by omega,by rw [Yk];simp;omega,by rw [Yk];simp,?_⟩
  have e:(Zd (a::l)).extract 1 (l.length+1)=Zd l:=by
    apply ByteArray.ext;simp [Zd]
  show K ((Zd (a::l)).extract 1 (l.length+1))
  rw [e];exact hk
theorem Zh1 {l:BL} (hl:l.length<9223372036854775806) {K:ByteArray→Bool→HP} {h:Zc} (hk:K (Zd (ZaV l).1) (ZaV l).2 h):YF (Zd l) (ByteArray.mk #[45]) K h:=by
  unfold YF XY ZU Yl
  refine Zmg ?_
  rcases l with _ | ⟨a,l⟩
  ·exact Zp rfl (Zg hk)
  ·dsimp only
   dsimp only [ZaV] at hk
   by_cases ha:a=45
   ·rw [if_pos ha] at hk
    rw [decide_eq_true ha]
    exact Zt rfl (ZsV (by simp at hl;omega) (Zg hk))
   ·rw [if_neg ha] at hk
    rw [decide_eq_false ha]
    exact Zp rfl (Zg hk)
theorem ZiM {l:BL} (hl:l.length<9223372036854775806) {K:ByteArray→HP} {h:Zc} (hk:K (Zd (Zeq l)) h):Yz (Zd l) (ByteArray.mk #[43]) K h:=by
  unfold Yz XI ZR Yf
  refine Zmg ?_
  rcases l with _ | ⟨a,l⟩
  ·exact Zt rfl hk
  ·dsimp only
   dsimp only [Zeq] at hk
   by_cases ha:a=43
   ·rw [if_pos ha] at hk
    rw [decide_eq_true ha]
    exact Zp rfl (ZsV (by simp at hl;omega) hk)
   ·rw [if_neg ha] at hk
    rw [decide_eq_false ha]
    exact Zt rfl hk
theorem ZiV {l:BL} (hl:l.length≤281474976710656) {h:Zc} (ht:Zaq h) {K:Int→Value→HP}
    (h1:∀ v h',Lib.atoiAll l = .ok v→Ext h h'→K v .nilIface h') (h2:∀ n t p h',(∀ v,Lib.atoiAll l≠ .ok v)→Ext h h'→K n (.iface t p) h'):YT (Zd l) K h:=by
  refine ⟨ht,hl,?_⟩
  show match Lib.atoiAll l with
    | .ok v=>_
    | .range=>_
    | _=>_
  cases e:Lib.atoiAll l with
  | ok v=>exact fun h' e'=>h1 v h' e e'
  | _=>exact fun h' t p e'=>h2 _ t p h' (fun v h=>by rw [e] at h;cases h) e'
theorem ZmG {x y:BL} {A B:Prop} (h1:x=y→A) (h2:x≠y→B):ZD (ZaK (Zd x) (Zd y)) A B:=by
  rw [Xq];exact ⟨fun e=>h1 (of_decide_eq_true e),fun e=>h2 (of_decide_eq_false e)⟩
theorem ZhX {l:BL} (hl:l.length≤65536) {h:Zc} (ht:Zaq h) {K:Int→Bool→HP} (hk:∀ n h',Ext h h'→(∀ v,ZpJ l=some v→n=v)→K n (ZpJ l).isSome h'):Xu (Zd l) K h:=by
  unfold Xu Zbg
  refine Za ?_
  rw [show ByteArray.mk #[]=Zd [] from rfl,Xq]
  have key:=fun n h'=>hk n h'
  unfold ZpJ at key
  by_cases h0:l=[]
  ·rw [if_pos h0] at key
   exact Zp (by simp [h0]) (Za (key 0 h (Ext.refl _) fun v hv=>by cases hv;rfl))
  ·rw [if_neg h0] at key
   refine Zt (by simpa using h0) (ZiM (by omega) (ZiV (by have:(Zeq l).length≤l.length:=(by unfold Zeq;split<;>(try split)<;>simp);omega) ht (fun v h' e x=>Za ?_) fun n t p h' e x=>Za ?_))
   ·rw [e] at key
    refine .inl ⟨rfl,Zp rfl (Zo (fun ha=>Za (Zg ?_)) fun ha=>Za ?_)⟩
    ·by_cases hb:v≤1048576
     ·simp only [if_pos (show -1048576≤v∧v≤1048576 from ⟨ha,hb⟩)] at key
      rw [decide_eq_true hb]
      exact key v h' x fun w hw=>by cases hw;rfl
     ·simp only [if_neg (show ¬ (-1048576≤v∧v≤1048576) from fun h=>hb h.2)] at key
      rw [decide_eq_false hb]
      exact key v h' x fun w hw=>by cases hw
    ·simp only [if_neg (show ¬ (-1048576≤v∧v≤1048576) from fun h=>ha h.1)] at key
     exact key v h' x fun w hw=>by cases hw
   ·refine .inr ⟨_,_,rfl,Zt rfl (Za ?_)⟩
    cases e9:Lib.atoiAll (Zeq l) with
    | ok v=>exact absurd e9 (e v)
    | _=>rw [e9] at key;exact key n h' x fun w hw=>by cases hw
theorem Zlm {l:BL} {v:Int} (h:ZpJ l=some v) : -1048576≤v∧v≤1048576:=by
  unfold ZpJ at h
  split at h
  ·cases h;omega
  ·split at h
   ·split at h
    ·cases h;assumption
    ·cases h
   ·cases h
theorem Zlw {h:Zc} {z:VT5} {v:JV} {S:Nat→Prop} {K:Int→Bool→HP} (hv:Zbn h S z v) (hS:∀ j,S j→j<sz h) (hfit:Znw v) (ht:Zaq h) (hh:9≤sz h)
    (hk:∀ n b h',Ext h h'→(v.k=4→Zcz v=true→b=(Zgr v.t).isSome∧n=(Zgr v.t).getD 0)→(¬ (v.k=4∧Zcz v=true)→n=0∧b=false)→K n b h'):ZaG z K h:=by
  unfold ZaG ZcN
  have hs:sz h=h.size:=rfl
  refine ZbP fun h1 c1 e1 z1=>Za ?_
  have c1':obj h1 h.size=some (.cells (XE z).toArray 33 (0,0)):=c1
  have s1:sz h1=h1.size:=rfl
  refine rI (Zm c1' rfl) ?_
  have hz1:z.1=v.k:=hv.1
  rw [hz1]
  by_cases h4:¬ v.k=4
  ·exact Zp (by rw [bne_iff_ne];omega) (Za (hk _ _ h1 e1 (fun h=>absurd h h4) fun _=>⟨rfl,rfl⟩))
  replace h4:v.k=4:=Decidable.not_not.1 h4
  refine Zt (by rw [h4];rfl) (rI (Zm c1' rfl) (rS (Zm c1' rfl) (rL (s:=z.2.2.1) (Zm c1' rfl) (rL (s:=z.2.2.2.1) (Zm c1' rfl) ?_))))
  refine ZgH (z:=z) (hv.ext hS e1) (fun j hj=>Nat.lt_of_lt_of_le (hS j hj) e1.size) hfit (ht.ext e1) (by have:=e1.size;omega) fun h2 e2=>?_
  have e12:=e1.trans e2
  have c2:=YK c1' e2
  cases hr:Zcz v with
  | false=>exact Zp rfl (Za (hk _ _ h2 e12 (fun _ h=>by rw [hr] at h;cases h) fun _=>⟨rfl,rfl⟩))
  | true =>
    have key:=fun n b h' (x:Ext h h') (y:b=(Zgr v.t).isSome∧n=(Zgr v.t).getD 0)=>hk n b h' x (fun _ _=>y) fun h=>absurd ⟨h4,hr⟩ h
    refine Zt rfl (rS (Zm c2 rfl) ?_)
    have hnum:Zc4 v.t = .ok () []∧v.t.length≤65536:=by
      have:=(Zc2.1 hr).1.1
      rcases this with ⟨h,_⟩ | ⟨_,a,b,_⟩ | ⟨h,_⟩ | ⟨h,_⟩ | ⟨h,_⟩
      ·omega
      ·exact ⟨a,b⟩
      all_goals omega
    obtain ⟨hn,hl⟩:=hnum
    have hasc:∀ c∈v.t,c.toNat<128:=by
      obtain ⟨x,hx,ha⟩:=Zn3 _ _ hn
      rw [List.append_nil] at hx;rw [hx];exact ha
    have ht2:=ht.ext e12
    rw [show z.2.1=Zd v.t from hv.2.1]
    unfold Zgr at key
    dsimp only at key
    refine Zh1 (by omega) (Zg ?_)
    generalize hm:ZaV v.t=m at *
    have hml:m.1.length≤v.t.length∧∀ c∈m.1,c.toNat<128:=by
      rw [← hm];exact ⟨ZiO _,fun c hc=>hasc c (ZiN _ c hc)⟩
    refine ⟨⟨by rw [Yk];omega,fun j b hb=>hml.2 b (List.mem_of_getElem? hb)⟩,fun h3 e3=>?_⟩
    have hll:(Lib.toLowerA m.1).length=m.1.length:=List.length_map ..
    have e13:=e12.trans e3
    have ht3:=ht.ext e13
    show Zaf (Zd (Lib.toLowerA m.1)) _ _ h3
    refine ⟨ht3,by rw [Yk];omega,Zg ?_⟩
    show Zaf (Zd (Lib.cut (Lib.toLowerA m.1) [101]).1) _ _ h3
    have hc1:=Zm4 (Lib.toLowerA m.1) [101]
    generalize Lib.cut (Lib.toLowerA m.1) [101]=a at *
    refine ⟨ht3,by rw [Yk];omega,Zg ?_⟩
    show Zku (Zd (Lib.cut a.1 [46]).1) (Zd (Lib.cut a.1 [46]).2.1) _
    have hc2:=Zm4 a.1 [46]
    generalize Lib.cut a.1 [46]=b at *
    refine ZaB (by omega) ⟨48,by decide,rfl,?_⟩
    show Xa (Zd (Lib.trimLeftB (b.1++b.2.1) 48)) _ _ h3
    have hd:=ZlW (b.1++b.2.1) 48
    rw [List.length_append] at hd
    generalize Lib.trimLeftB (b.1++b.2.1) 48=d at *
    have hg:=ZlV d 48
    refine ⟨48,by decide,rfl,by rw [Yk];omega,?_⟩
    refine ⟨48,by decide,rfl,by rw [Yk];omega,?_⟩
    show Zy (IntKind.wrap .i64 (((Zd d).size:Int) - ((Zd (Lib.trimRightB d 48)).size:Int))) _
    rw [Yk,Yk]
    generalize Lib.trimRightB d 48=g at *
    rw [Ys (by omega) (by omega)]
    refine Za ?_
    refine ZmG (x:=g) (y:=[]) (fun h0=>?_) fun h0=>?_
    ·rw [if_pos h0] at key
     exact Za (key 0 true h3 e13 ⟨rfl,rfl⟩)
    rw [if_neg h0] at key
    refine ZhX (l:=a.2.1) (by omega) ht3 fun n h4 e4 hv4=>Za (Zg ?_)
    have e14:=e13.trans e4
    have ht4:=ht.ext e14
    cases he:ZpJ a.2.1 with
    | none =>
      rw [he] at key
      exact Zp rfl (Za (key 0 false h4 e14 ⟨rfl,rfl⟩))
    | some y =>
      rw [he] at key
      have hy:=Zlm he
      have hny:=hv4 y he
      subst hny
      refine Zt rfl ?_
      show Zy (IntKind.wrap .i64 (n+IntKind.wrap .i64 ((((d.length:Int)) - ((g.length:Int))) - ((Zd b.2.1).size:Int)))) _
      rw [Yk,Ys (n:=(d.length:Int) - (g.length:Int) - (b.2.1.length:Int)) (by omega) (by omega),Ys (by omega) (by omega)]
      simp only at key
      generalize hY:n+((d.length:Int) - (g.length:Int) - (b.2.1.length:Int))=Y at *
      refine Za (Zo (fun hneg=>?_) fun hneg=>Zo (fun hbig=>?_) fun hbig=>?_)
      ·rw [if_pos hneg] at key
       exact Za (key 0 false h4 e14 ⟨rfl,rfl⟩)
      ·rw [if_neg hneg,if_pos (by omega)] at key
       exact Za (key 0 false h4 e14 ⟨rfl,rfl⟩)
      rw [if_neg hneg,if_neg (by omega)] at key
      refine ⟨Y.toNat,by omega,by omega,by show 1*_≤_;omega,fun h5 e5=>?_⟩
      have e15:=e14.trans e5
      have ht5:=ht.ext e15
      have hrep:(Lib.repeatL [48] Y.toNat).length=Y.toNat:=by rw [Lib.repeatL_length];simp
      show Zku (Zd g) (Zd (Lib.repeatL [48] Y.toNat)) _
      generalize Lib.repeatL [48] Y.toNat=rp at *
      refine ZaB (by omega) ?_
      have fin:∀ ds:BL,ds.length≤281474976710656→(if m.2=true then [45] else [])++(g++rp)=ds→YT (Zd ds) (fun t47 t48 h49 =>
         Zy t47 fun n =>
         Zex t48 fun b50 =>
         ZD (!b50) (
         Zy 0 fun t51 =>
         K t51 false h49) (
         Zy n fun t52 =>
         K t52 true h49)) h5:=fun ds hlen hds=>by
        rw [hds] at key
        refine ZiV hlen ht5 (fun w h' ew x=>Za (.inl ⟨rfl,Zt rfl (Za ?_)⟩)) fun w t p h' ew x=>Za (.inr ⟨_,_,rfl,Zp rfl (Za ?_)⟩)
        ·rw [ew] at key
         exact key w true h' (e15.trans x) ⟨rfl,rfl⟩
        ·cases e9:Lib.atoiAll ds with
         | ok v=>exact absurd e9 (ew v)
         | _=>rw [e9] at key;exact key 0 false h' (e15.trans x) ⟨rfl,rfl⟩
      refine ZfS ?_
      cases hm2:m.2 with
      | true =>
        refine Zp rfl (ZaB (x:=[45]) (y:=g++rp) (by rw [List.length_append];simp;omega) ?_)
        exact fin _ (by simp;omega) (by rw [hm2];rfl)
      | false =>
        refine Zt rfl ?_
        exact fin _ (by simp;omega) (by rw [hm2];rfl)
end Go.Proofs.YtpjbjdheeemdiaaGreatDoor
namespace Go.Js
open Go
def lvT:BL:=[91,49,44,32,34,97,92,117,48,48,52,49,34,44,32,123,34,98,34,58,32,110,117,108,108,125,93]
def lvV:JV:=⟨6,[],[],.cons 4 [49] [] .nil (.cons 5 [97,65] [] .nil (.cons 7 [] [[98]] (.cons 1 [] [] .nil .nil) .nil))⟩
theorem Zj8:Xm lvT = .ok lvV:=by kernel_rfl
theorem ZhJ:XP lvV=[91,49,44,34,97,65,34,44,123,34,98,34,58,110,117,108,108,125,93]:=by kernel_rfl
theorem Zq0:Xm [91,49,44,93] = .err 20 3:=by kernel_rfl
theorem ZqZ:Xm [45,55] = .ok ⟨4,[45,55],[],.nil⟩:=by kernel_rfl
theorem Zn5:Zgr [45,55]=some (-7):=by kernel_rfl
theorem Zpy:Lib.itoa (-7)=[45,55]:=by kernel_rfl
theorem ZoW:Znw lvV:=by simp [Znw,Zp2,lvV]
theorem Zdh {l:BL} {v:JV} (h:Xm l = .ok v):Zcy 64 v∧Zf4 v≤65536:=⟨(Zdq h).1,(Zdq h).2.1⟩
def Got.val:Got→JV
  | .ok v=>v
  | .err _ _=>⟨0,[],[],.nil⟩
end Go.Js
namespace Go.Proofs.YtpjbjdheeemdiaaGreatDoor
open Go Go.Fw Go.Js
theorem Zn6:Zm2 lvV=2:=by kernel_rfl
theorem _root_.Go.Fw.Ext.szz {h h':Zc} (e:Ext h h'):sz h≤sz h':=e.size
theorem ZjI.val {h:Zc} {S:Nat→Prop} {g:Got} {z:VT5} {e n:Int} (r:ZjI h S g z e n):Zbn h S z g.val:=by
  cases g with
  | ok v=>exact r.1
  | err e k=>exact r.1
theorem ZjI.ext {h h':Zc} {S:Nat→Prop} {g:Got} {z:VT5} {e n:Int} (r:ZjI h S g z e n) (hS:∀ j,S j→j<sz h) (u:Ext h h'):ZjI h' S g z e n:=by
  cases g with
  | ok v=>exact ⟨r.1.ext hS u,r.2⟩
  | err e k=>exact ⟨r.1.ext hS u,r.2⟩
theorem ZjI.mono {h:Zc} {S S':Nat→Prop} {g:Got} {z:VT5} {e n:Int} (r:ZjI h S g z e n) (hs:∀ j,S j→S' j):ZjI h S' g z e n:=by
  cases g with
  | ok v=>exact ⟨r.1.keep (fun _ _ _=>rfl) hs,r.2⟩
  | err e k=>exact ⟨r.1.keep (fun _ _ _=>rfl) hs,r.2⟩
theorem ZjI.same {h h':Zc} {S S':Nat→Prop} {g:Got} {z z':VT5} {e n e' n':Int} (r:ZjI h S g z e n) (r':ZjI h' S' g z' e' n'):e=e'∧n=n':=by
  cases g with
  | ok v=>exact ⟨r.2.1.trans r'.2.1.symm,r.2.2.trans r'.2.2.symm⟩
  | err e k=>exact ⟨r.2.1.trans r'.2.1.symm,r.2.2.trans r'.2.2.symm⟩
theorem Zoa {f:Znu} {h:Zc} {s:ByteArray} {g:Got} {K:VT5→Int→Int→Nat→HP}
    (hf:∀ K':VT5→Int→Int→HP,(∀ z e n h',Ext h h'→ZjI h' (fun j=>sz h≤j∧j<sz h') g z e n→K' z e n h')→f s K' h)
    (hk:∀ z e n b h',Ext h h'→obj h' b=some (.cells (XE z).toArray 33 (0,0))→sz h≤b→b<sz h'→ZjI h' (fun j=>sz h≤j∧j<sz h') g z e n→K z e n b h') :
    f s (fun t t1 t2 h3=>newC h3 [.int .u8 0,.string (ByteArray.mk #[]),.slice none 0 0,.slice none 0 0] 33 fun b h4 =>
      sts h4 b 0 [.int .u8 t.1,.string t.2.1,.slice t.2.2.1.ptr t.2.2.1.len t.2.2.1.cap,.slice t.2.2.2.1.ptr t.2.2.2.1.len t.2.2.2.1.cap] fun h5=>K t t1 t2 b h5) h:=by
  refine hf _ fun z e n h1 e1 r=>ZbP fun h2 c2 e2 z2=>?_
  have c2':obj h2 h1.size=some (.cells zV.toArray 33 (0,0)):=c2
  have s1:sz h1=h1.size:=rfl
  have s2:sz h2=h2.size:=rfl
  have h01:=e1.szz
  refine ZnI c2' (by simp) (Zcp z) fun h3 c3 u3 z3=>?_
  have e3:Ext h1 h3:=e2.updS u3 fun j hj=>by omega
  refine hk z e n _ h3 (e1.trans e3) c3 (by omega) (by omega) ?_
  exact (r.ext (fun j hj=>hj.2) e3).mono fun j hj=>⟨hj.1,by have:=e3.szz;omega⟩
theorem ZdR {h:Zc} {s:ByteArray} (ht:Zaq h) (hh:9≤sz h) {K:VT5→Int→Int→Nat→HP}
    (hk:∀ z e n b h',Ext h h'→obj h' b=some (.cells (XE z).toArray 33 (0,0))→sz h≤b→b<sz h'→ZjI h' (fun j=>sz h≤j∧j<sz h') (Xm s.data.toList) z e n→K z e n b h') :
    Yj s (fun t t1 t2 h3=>newC h3 [.int .u8 0,.string (ByteArray.mk #[]),.slice none 0 0,.slice none 0 0] 33 fun b h4 =>
     sts h4 b 0 [.int .u8 t.1,.string t.2.1,.slice t.2.2.1.ptr t.2.2.1.len t.2.2.1.cap,.slice t.2.2.2.1.ptr t.2.2.2.1.len t.2.2.2.1.cap] fun h5=>K t t1 t2 b h5) h :=
  Zoa (fun _ hk'=>ZgM ht hh hk') hk
theorem ZiC {h:Zc} (ht:Zaq h) (hh:9≤sz h) {K:Bool→HP} (hk:∀ h',Ext h h'→K true h'):Yh K h:=by
  unfold Yh XJ
  refine ZdR ht hh fun z e n b h1 e1 c1 b1 b1' g1=>Za (Za ?_)
  have hp:(ByteArray.mk #[91,49,44,32,34,97,92,117,48,48,52,49,34,44,32,123,34,98,34,58,32,110,117,108,108,125,93]).data.toList=lvT:=rfl
  rw [hp,Zj8] at g1
  obtain ⟨v1,rfl,rfl⟩:=g1
  have h01:=e1.szz
  refine rI (Zm c1 rfl) (rS (Zm c1 rfl) (rL (s:=z.2.2.1) (Zm c1 rfl) (rL (s:=z.2.2.2.1) (Zm c1 rfl) ?_)))
  refine Zk1 (z:=z) v1 (fun j hj=>hj.2) ZoW (by rw [ZhJ];decide) (ht.ext e1) (by omega) fun s f h2 e2 _ _ hs=>Za ?_
  obtain ⟨rfl,rfl⟩:=hs (Zc2.2 (Zdh Zj8)) (by rw [ZhJ];decide)
  have e02:=e1.trans e2
  have h12:=e2.szz
  refine ZdR (ht.ext e02) (by omega) fun z3 e3 n3 b3 h3 x3 c3 b3' b3'' g3=>Za (Za ?_)
  have hp3:(ByteArray.mk #[91,49,44,93]).data.toList=[91,49,44,93]:=rfl
  rw [hp3,Zq0] at g3
  obtain ⟨_,rfl,rfl⟩:=g3
  have e03:=e02.trans x3
  have h23:=x3.szz
  refine Zk7 (by omega) (ht.ext e03) fun h4 x4=>?_
  have e04:=e03.trans x4
  have h34:=x4.szz
  rw [Zpy]
  refine Zlw (z:=(4,Zd [45,55],⟨none,0,0⟩,⟨none,0,0⟩,())) (v:=⟨4,[45,55],[],.nil⟩) (S:=fun _=>False) (Zbn.plain _ _ 4 _) (fun _ h=>h.elim) (by simp [Znw,Zp2]) (ht.ext e04) (by omega) fun n5 ok5 h5 x5 hw _=>Za (Zg ?_)
  have hw':=hw rfl (Zc2.2 (Zdh ZqZ))
  simp only [Zn5] at hw'
  obtain ⟨rfl,rfl⟩:=hw'
  have e05:=e04.trans x5
  have h45:=x5.szz
  have x15:Ext h1 h5:=e2.trans (x3.trans (x4.trans x5))
  have c5:=YK c1 x15
  refine Zp rfl (Zp rfl (Zp ?_ (Zp rfl (Zp rfl (Zp rfl (Zp rfl ?_))))))
  ·rw [show ByteArray.mk #[91,49,44,34,97,65,34,44,123,34,98,34,58,110,117,108,108,125,93]=Zd [91,49,44,34,97,65,34,44,123,34,98,34,58,110,117,108,108,125,93] from rfl,Xq,ZhJ]
   exact decide_eq_true rfl
  refine rI (Zm c5 rfl) (rS (Zm c5 rfl) (rL (s:=z.2.2.1) (Zm c5 rfl) (rL (s:=z.2.2.2.1) (Zm c5 rfl) ?_)))
  refine Zlq (z:=z) (v1.ext (fun j hj=>hj.2) x15) (fun j hj=>by omega) ZoW (ht.ext e05) (by omega) fun h6 x6=>Zg ?_
  rw [Zn6]
  exact hk h6 (e05.trans x6)
end Go.Proofs.YtpjbjdheeemdiaaGreatDoor
namespace Go.Proofs.YtpjbjdheeemdiaaGreatDoor
open Go Go.Fw Go.Js
theorem Zn7 {h h1:Zc} (e1:Ext h h1) (ht:Zaq h) (hh:9≤sz h) {K:Bool→HP} (hk:∀ h',Ext h h'→K true h'):Yh (fun t h2=>ZK t fun b=>K b h2) h1 :=
  ZiC (ht.ext e1) (by have:=e1.szz;omega) fun h2 x2=>Zg (hk h2 (e1.trans x2))
theorem ZnV {l:BL} {e k:Nat} (h:Xm l = .err e k):k≤65536:=by
  unfold Xm at h
  split at h
  ·cases h;exact Nat.le_refl _
  ·split at h
   ·cases h;omega
   ·split at h
    ·cases h
    ·cases h;omega
theorem Zkx {i:Int} (h0:0≤i) {K:ByteArray→Prop} (hk:∀ c:UInt8,Z1 c=true→K (Zd [c])):Zi3 (ByteArray.mk #[32,9,10,13]) (Int.tmod i 4) (IntKind.wrap .i64 ((Int.tmod i 4)+1)) K:=by
  have h1:Int.tmod i 4=i % 4:=Int.tmod_eq_emod_of_nonneg h0
  rw [h1]
  have h2:i % 4=0∨i % 4=1∨i % 4=2∨i % 4=3:=by omega
  rcases h2 with h | h | h | h
  ·rw [h];exact ⟨by decide,by decide,by decide,hk 32 rfl⟩
  ·rw [h];exact ⟨by decide,by decide,by decide,hk 9 rfl⟩
  ·rw [h];exact ⟨by decide,by decide,by decide,hk 10 rfl⟩
  ·rw [h];exact ⟨by decide,by decide,by decide,hk 13 rfl⟩
theorem Zf2 {h:Zc} {s:ByteArray} {ahead behind:Int} (_:s.size≤140737488351232) (ha:0≤ahead∧ahead<256) (hb:0≤behind∧behind<256) (ht:Zaq h) (hh:9≤sz h) {K:Bool→HP} (hk:∀ h',Ext h h'→K true h'):YJ s ahead behind K h:=by
  unfold YJ YL
  refine ZdR ht hh fun z e n b h1 e1 c1 b1 b1' g1=>Za (Za ?_)
  have s1:=e1.szz
  refine ZiC (ht.ext e1) (by omega) fun h2 x2=>Zt rfl ?_
  have e02:=e1.trans x2
  have s2:=x2.szz
  refine Zo (fun _=>Zn7 e02 ht hh hk) fun hsz=>Za ?_
  rw [Ys (n:=ahead) (by omega) (by omega),Ys (n:=behind) (by omega) (by omega)]
  refine ZL (fun p h'=>h'=h2∧∃ x:BL,p.1=Zd x∧p.2.1=x.length∧(x.length:Int)≤ahead∧Blk x) (fun p _=>(ahead - p.2.1).toNat) ⟨rfl,[],rfl,rfl,ha.1,fun _ h=>by cases h⟩ ?_
  rintro ⟨p,i,u⟩ h3 ⟨rfl,x,hx,hi,hxl,hxb⟩
  dsimp only at hx hi ⊢
  subst hx hi
  refine Zo (fun hlt=>⟨by decide,by decide,Zkx (by omega) fun c hc=>ZaB (by simp;omega) (Za ?_)⟩) fun hge=>Za ?_
  ·rw [Ys (by omega) (by omega)]
   refine ⟨⟨rfl,x++[c],rfl,by simp,by simp;omega,fun d hd=>?_⟩,by omega⟩
   rcases List.mem_append.1 hd with h | h
   ·exact hxb d h
   ·rw [List.mem_singleton.1 h];exact hc
  refine ZL (fun p h'=>h'=h3∧∃ y:BL,p.1=Zd y∧p.2.1=y.length∧(y.length:Int)≤behind∧Blk y) (fun p _=>(behind - p.2.1).toNat) ⟨rfl,[],rfl,rfl,hb.1,fun _ h=>by cases h⟩ ?_
  rintro ⟨p,i,u⟩ h4 ⟨rfl,y,hy,hi,hyl,hyb⟩
  dsimp only at hy hi ⊢
  subst hy hi
  refine Zo (fun hlt=>⟨by decide,by decide,Zkx (by omega) fun c hc=>ZaB (by simp;omega) (Za ?_)⟩) fun hge2=>?_
  ·rw [Ys (by omega) (by omega)]
   refine ⟨⟨rfl,y++[c],rfl,by simp,by simp;omega,fun d hd=>?_⟩,by omega⟩
   rcases List.mem_append.1 hd with h | h
   ·exact hyb d h
   ·rw [List.mem_singleton.1 h];exact hc
  have hs:s=Zd s.data.toList:=rfl
  have hsl:s.data.toList.length=s.size:=by simp
  generalize s.data.toList=l at *
  subst hs
  have hbl:=Zlu (l:=l) hxb hyb (by simp;omega)
  refine ZaB (by omega) (ZaB (by simp;omega) ?_)
  refine ZdR (ht.ext e02) (by omega) fun z6 e6 n6 b6 h6 x6 c6 b6' b6'' g6=>Za (Za ?_)
  have hd6:(Zd (x++l++y)).data.toList=x++(l++y):=by rw [← List.append_assoc]
  rw [hd6] at g6
  have s6:=x6.szz
  have cb:=YK c1 (x2.trans x6)
  cases hp:Xm l with
  | ok v =>
    rw [hp] at g1 hbl
    simp only at hbl
    rw [hbl] at g6
    obtain ⟨v1,rfl,rfl⟩:=g1
    obtain ⟨v6,rfl,rfl⟩:=g6
    refine Zp rfl (Zp rfl ?_)
    refine rI (Zm cb rfl) (rS (Zm cb rfl) (rL (s:=z.2.2.1) (Zm cb rfl) (rL (s:=z.2.2.2.1) (Zm cb rfl) ?_)))
    refine rI (Zm c6 rfl) (rS (Zm c6 rfl) (rL (s:=z6.2.2.1) (Zm c6 rfl) (rL (s:=z6.2.2.2.1) (Zm c6 rfl) ?_)))
    refine Zga (a:=z) (b:=z6) (v1.ext (fun j hj=>hj.2) (x2.trans x6)) v6 (fun j hj=>by omega) (fun j hj=>hj.2) fun h7 x7=>Zg ?_
    rw [decide_eq_true rfl]
    exact hk h7 ((e02.trans x6).trans x7)
  | err e' k =>
    rw [hp] at g1 hbl
    simp only at hbl
    obtain ⟨_,rfl,rfl⟩:=g1
    have hnz:=ZhE hp
    have hkl:=ZnV hp
    refine Zt (by simp;omega) (Xn (fun h24=>?_) fun h24=>?_)
    ·rw [if_pos (by omega)] at hbl
     obtain ⟨f,m,hfm,hm⟩:=hbl
     rw [hfm] at g6
     obtain ⟨_,rfl,rfl⟩:=g6
     have:=ZhE hfm
     refine Zp (by simp;omega) (Zg ?_)
     rw [Yk,Ys (by omega) (by omega),decide_eq_true (by omega)]
     exact hk h6 (e02.trans x6)
    ·rw [if_neg (by omega)] at hbl
     rw [hbl] at g6
     obtain ⟨_,rfl,rfl⟩:=g6
     refine Zp (beq_self_eq_true _) (Zg ?_)
     rw [Yk,Ys (by omega) (by omega)]
     rw [show (((x.length+k:Nat):Int) ==(x.length:Int)+(k:Int))=true by simp]
     exact hk h6 (e02.trans x6)
end Go.Proofs.YtpjbjdheeemdiaaGreatDoor
namespace Go.Proofs.YtpjbjdheeemdiaaGreatDoor
open Go Go.Fw Go.Lib
theorem ZhN {P:Program} {w:World} {t:TypeId} {ms:Array (String × TypeId)} {cs:List Value} {nm:String} {d:DataW Unit} {p:List MemPlace} {fuel:Nat}
    (hu:P.underlying t=some (.interface ms)) (h:DataW.trod (fun _=>()) P w 0 (fun _=>true) false fuel t cs=some (.iface nm d,p)):∃ u v,cs=[.iface u v]:=by
  cases fuel with
  | zero=>simp [DataW.trod] at h
  | succ fuel =>
    unfold DataW.trod at h
    rw [hu] at h
    split at h<;>simp_all
abbrev ZeG:List (String × DataW Unit):=[("math/bits.deBruijn32tab", Rows.laid_math_bits_deBruijn32tab),("math/bits.deBruijn64tab", Rows.laid_math_bits_deBruijn64tab),("internal/strconv.uint64pow10", Rows.laid_internal_strconv_uint64pow10),("unicode/utf8.acceptRanges", Rows.laid_unicode_utf8_acceptRanges),("strconv.ErrRange", Rows.laid_strconv_ErrRange),("strconv.ErrSyntax", Rows.laid_strconv_ErrSyntax),("unicode.CaseRanges", Rows.laid_unicode_CaseRanges),("unicode/utf8.first", Rows.laid_unicode_utf8_first)]
theorem ZiT {w:World} {n:String} {g:Nat} {t e:TypeId} {m:Nat} {k:IntKind} {zs:List Int} (hg:Tryz.prog.globalNamed n=some g) (hty:(Tryz.prog.globals[g]?).map (·.type)=some t)
    (ht:Tryz.prog.underlying t=some (.array m e)) (he:Tryz.prog.underlying e=some (.int k)) (hce:Tryz.prog.cellsOf e=1) (hct:Tryz.prog.cellsOf t=m) (h:VarReads Tryz.prog w n (tabData k zs)):TabIs Tryz.prog w n k zs:=by
  obtain ⟨g',t',cs,fuel,p,hg',ht',hvar,hd⟩:=h
  obtain rfl:=Option.some.inj (hg.symm.trans hg')
  obtain rfl:=Option.some.inj (hty.symm.trans ht')
  unfold TabIs
  rw [hvar,← cells_of_tab ht he hce hct hd]
theorem Zoj:Rows.laid_unicode_utf8_first=firstData:=by kernel_rfl
theorem Znl:(Rows.laid_unicode_utf8_acceptRanges:DataW Unit)=acceptData:=by kernel_rfl
theorem ZqS:(Rows.laid_internal_strconv_uint64pow10:DataW Unit)=tabData .u64 pow10Tab:=by kernel_rfl
theorem Zg1:Tryz.prog.globalNamed "unicode/utf8.first" = some 0:=by kernel_rfl
theorem ZjF:Tryz.prog.globalNamed "unicode/utf8.acceptRanges" = some 1:=by kernel_rfl
theorem ZnR:Tryz.prog.globalNamed "internal/strconv.uint64pow10" = some 6:=by kernel_rfl
theorem ZkX:Tryz.prog.globalNamed "strconv.ErrRange" = some 5:=by kernel_rfl
theorem ZnH:Tryz.prog.globalNamed "strconv.ErrSyntax" = some 4:=by kernel_rfl
theorem Zll:(Tryz.prog.globals[0]?).map (·.type)=some 271:=by kernel_rfl
theorem ZjE:(Tryz.prog.globals[1]?).map (·.type)=some 274:=by kernel_rfl
theorem ZnQ:(Tryz.prog.globals[6]?).map (·.type)=some 332:=by kernel_rfl
theorem ZkW:(Tryz.prog.globals[5]?).map (·.type)=some 177:=by kernel_rfl
theorem ZnG:(Tryz.prog.globals[4]?).map (·.type)=some 177:=by kernel_rfl
theorem ZsC:Tryz.prog.cellsOf 5=1:=by kernel_rfl
theorem ZpS:Tryz.prog.cellsOf 271=256:=by kernel_rfl
theorem ZsD:Tryz.prog.cellsOf 182=1:=by kernel_rfl
theorem ZsE:Tryz.prog.cellsOf 332=20:=by kernel_rfl
theorem Zrj:Tryz.prog.cellsOf 273=2:=by kernel_rfl
theorem ZlR {w:World} (h3:VarReads Tryz.prog w "unicode/utf8.first" firstData) (h4:VarReads Tryz.prog w "unicode/utf8.acceptRanges" acceptData):Lib.Utf8Tabs 0 1 w:=by
  refine ⟨fun c hc=>?_,fun i hi=>?_⟩
  ·have hT:=ZiT Zg1 Zll Tryz.underlying271 Tryz.underlying5 ZsC ZpS h3
   rw [hT.cell Zg1 c (by simp [firstTab];omega)]
   simp [firstTab,List.getD,hc]
  ·obtain ⟨g,t,cs,fuel,p,hg,hty,hvar,hd⟩:=h4
   obtain rfl:=Option.some.inj (ZjF.symm.trans hg)
   obtain rfl:=Option.some.inj (ZjE.symm.trans hty)
   obtain ⟨fuel',d,q,hdi,he⟩:=array_elem Tryz.underlying274 hd i hi
   simp only [List.getElem?_map,List.getElem?_range hi,Option.map_some,Option.some.injEq] at hdi
   subst hdi
   rw [Zrj] at he
   have hcs:=ints_of_struct Tryz.underlying273 (fun j f hj=>by
     match j,hj with
     | 0,hj=>simp at hj;subst hj;exact ⟨Tryz.underlying5,rfl,ZsC⟩
     | 1,hj=>simp at hj;subst hj;exact ⟨Tryz.underlying5,rfl,ZsC⟩
     | j+2,hj=>simp at hj) (by rw [Zrj];rfl) he
   have e0:=congrArg (·[0]?) hcs
   have e1:=congrArg (·[1]?) hcs
   simp only [List.getElem?_take,List.getElem?_drop] at e0 e1
   constructor
   ·rw [World.var?_cell hg hvar (2*i),← Array.getElem?_toList]
    simpa [Nat.mul_comm] using e0
   ·rw [World.var?_cell hg hvar (2*i+1),← Array.getElem?_toList]
    simpa [Nat.mul_comm] using e1
theorem ZiK {w:World} {n nm:String} {g:Nat} {d:DataW Unit} (hg:Tryz.prog.globalNamed n=some g) (hty:(Tryz.prog.globals[g]?).map (·.type)=some 177) (h:VarReads Tryz.prog w n (.iface nm d)):∃ t p,w.cell? ⟨g,0,none⟩=some (.iface t p):=by
  obtain ⟨g',t',cs,fuel,p,hg',ht',hvar,hd⟩:=h
  obtain rfl:=Option.some.inj (hg.symm.trans hg')
  obtain rfl:=Option.some.inj (hty.symm.trans ht')
  obtain ⟨u,v,e⟩:=ZhN Tryz.underlying177 hd
  refine ⟨u,v,?_⟩
  rw [World.var?_cell hg hvar 0,← Array.getElem?_toList,e];rfl
theorem Zmx:((begin Tryz.prog (fun _ _=>0) default).world.heap[2]?).bind Obj.row?=some (#[.int .i64 0],3):=by kernel_rfl
theorem Zjl:Tryz.prog.buildable 3=true:=by kernel_rfl
theorem Zlc:Tryz.prog.cellTypes Tryz.prog.depth 3=some [3]:=by kernel_rfl
theorem ZkK:(begin Tryz.prog (fun _ _=>0) default).world.heap.size=14:=by kernel_rfl
theorem Zey:Tryz.prog.globals.size=9:=by kernel_rfl
theorem Zle:(ZeG.all fun x=>x.2.handleName?.isNone)=true:=by kernel_rfl
set_option maxRecDepth 10000 in
theorem Zpg {W:World} (hL:laidMetH Tryz.prog ZeG W) (hS:W.ShapedOpen Tryz.prog):Zaq W.heap∧9≤sz W.heap:=by
  have hl:∀ w:World,w.heap=W.heap→laidMet Tryz.prog ZeG w:=fun w hw=>by
    have:=hL.of_heap hw.symm
    rw [MakeChecks.laidMetH_plain _ _ _ Zle] at this
    exact this
  have hW:=hl W rfl
  refine ⟨⟨fun w hw=>?_,fun w hw=>?_,?_,?_,?_⟩,?_⟩
  ·have r1:=laidMet.reads (hl w hw) (n:= "unicode/utf8.first") (d:=Rows.laid_unicode_utf8_first) (by simp [ZeG])
   have r2:=laidMet.reads (hl w hw) (n:= "unicode/utf8.acceptRanges") (d:=Rows.laid_unicode_utf8_acceptRanges) (by simp [ZeG])
   rw [Zoj] at r1
   rw [Znl] at r2
   exact ZlR r1 r2
  ·have r1:=laidMet.reads (hl w hw) (n:= "internal/strconv.uint64pow10") (d:=Rows.laid_internal_strconv_uint64pow10) (by simp [ZeG])
   rw [ZqS] at r1
   exact ZiT ZnR ZnQ Tryz.underlying332 Tryz.underlying182 ZsD ZsE r1
  ·exact ZiK ZkX ZkW (laidMet.reads hW (n:= "strconv.ErrRange") (d:=Rows.laid_strconv_ErrRange) (by simp [ZeG]))
  ·exact ZiK ZnH ZnG (laidMet.reads hW (n:= "strconv.ErrSyntax") (d:=Rows.laid_strconv_ErrSyntax) (by simp [ZeG]))
  ·obtain ⟨cs,hh,hs,hr⟩:=hS.1 _ _ _ (by rw [Zey];decide) Zmx
   obtain ⟨ts,hts,_,hall⟩:=hr Zjl
   rw [Zlc] at hts
   cases hts
   have h1:0<cs.size:=by rw [hs];decide
   obtain ⟨u,hu',hok⟩:=hall 0 cs[0] (by simp [h1])
   have:u=3:=by simpa using hu'.symm
   subst this
   have hcell:Zc.cell W.heap 2 0=some cs[0]:=by
     unfold Zc.cell;simp [hh,h1]
   rw [hcell]
   unfold Cell.ok at hok
   rw [Tryz.underlying3] at hok
   cases hv:cs[0]<;>rw [hv] at hok<;>first | exact ⟨_,by rw [hok.1]⟩ | simp at hok
  ·obtain ⟨o,o0,h1,_⟩:=hS.2 13 (by rw [Zey];decide) (by rw [ZkK];decide)
   have:=(Array.getElem?_eq_some_iff.1 h1).1
   show 9≤W.heap.size
   omega
end Go.Proofs.YtpjbjdheeemdiaaGreatDoor
namespace Go.Proofs.YtpjbjdheeemdiaaGreatDoor
open Go Go.Fw
section
variable {H:Type} {enc:TypeId × Value→H}
theorem Zim {a:Assume} {C:Checked} {os:Os} {f:FuncId} {fn:Func} {s:ChangeSpec} {conds:List PathCond} {apart fresh handsOn again:Bool} {X:World→Array Value→Prop}
    (hX:∀ (w w':World) (args:Array Value),w.heap=w'.heap→X w args→X w' args)
    (own:ownKnob C.prog.godebug=none) (started:os.Started) (noInit:C.prog.inits.idxOf? f=none) (hfn:C.prog.funcs[f]?=some fn)
    (witness:∃ (w:World) (tape:Tape) (i:Input),w.os=os∧(w.forCall tape i).Shaped C.prog∧i.vars=[]∧Input.okWide C.prog (w.forCall tape i) .any w.heap.size f i ∧
      ((s.pre enc C.prog fn conds apart (w.forCall tape i).memory i.args∧X (w.forCall tape i).memory i.args)∧sizedMet enc C.prog fn (OpenSpec.ofChange s) apart (w.forCall tape i).memory i.args)∧a.holds C.prog (lone (Frame.enter C.prog f i.args .normal) [] (w.forCall tape i)))
    (contract:∀ (W:World) (base:Nat) (args:Array Value) (ds gs:List (DataW H)) (before:List MemPlace),
      (∀ (j:Nat) t v,fn.params[j]?=some t→args[j]?=some v→Value.okWide C.prog W .any base t v) →
      DataW.Whole enc C.prog fn.params.toList s.vars apart W args.toList ds gs before →
      (DataW.weightsEach C.prog (fn.params.toList++s.plain.varTypes C.prog) (ds++gs)).all (· ≤ reachBytes)=true→X W args→W.ShapedOpen C.prog →
      Calls C.prog f args W fun e W'=>∃ v,e = .returned v∧s.post enc C.prog fn apart fresh handsOn again W args v W') :
    ReturnsInHanded a C os f .any (fun w args=>(s.pre enc C.prog fn conds apart w args∧X w args)∧sizedMet enc C.prog fn (OpenSpec.ofChange s) apart w args) (s.post enc C.prog fn apart fresh handsOn again):=by
  refine returnsInHanded_of_calls own started noInit witness ?_
  intro w tape i _ hsh _ hok hpre _
  obtain ⟨_,_,_,fn',hfn',_,_,_,_,hval⟩:=hok
  have e:fn'=fn:=Option.some.inj (hfn'.symm.trans hfn)
  subst e
  obtain ⟨⟨⟨ds,gs,before,hw,_⟩,hx⟩,hz⟩:=hpre
  have hw':=DataW.Whole.of_heap (w':=w.forCall tape i) (by rfl) hw
  refine (contract (w.forCall tape i) w.heap.size i.args ds gs before hval hw' (hz.weights hw) (hX _ _ _ (by rfl) hx) hsh).mono fun e W' ⟨v,he,hp⟩=>?_
  subst he
  exact ChangeSpec.post_blind hp
theorem ZlZ {P:Program} {w:World} {base:Nat} {spare:Nat→Bool} {held:Bool} {t:TypeId} {fuel:Nat} {s:ByteArray} {d:DataW H} {p:List MemPlace} (ht:P.underlying t=some .string)
    (h:DataW.trod enc P w base spare held fuel t [.string s]=some (d,p)):d = .lit (.string s.data.toList):=by
  obtain ⟨s',hs,hx,_⟩:=DataW.trod_string ht h
  simp at hs
  subst hs
  exact (Prod.mk.inj hx).1
end
theorem ZqG {n:Int} (h:(Lit.int .u8 n).wf=true):0≤n∧n<256:=by
  simp only [Lit.wf,Bool.and_eq_true,decide_eq_true_eq] at h
  have h1:IntKind.u8.min=0:=by decide
  have h2:IntKind.u8.max=255:=by decide
  omega
theorem Zng {H:Type} {enc:TypeId × Value→H} {P:Program} {w:World} {base:Nat} {spare:Nat→Bool} {held:Bool} {q:IntKind} {t:TypeId} {fuel:Nat} {n:Int} {x:DataW H × List MemPlace} (ht:P.underlying t=some (.int q)) (h:DataW.trod enc P w base spare held fuel t [.int q n]=some x):(Lit.int q n).wf=true:=by
  obtain ⟨m,hm,_,hw⟩:=DataW.trod_int ht h
  simp at hm
  subst hm
  exact hw
end Go.Proofs.YtpjbjdheeemdiaaGreatDoor
