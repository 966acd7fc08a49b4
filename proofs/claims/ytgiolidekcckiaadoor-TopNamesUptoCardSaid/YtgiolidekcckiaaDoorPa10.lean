/- A value is written: json.Print. -/
import Derived.Test.YtgiolidekcckiaaDoorRows
import Derived.Lib.LaidU8
import Derived.Stop.Joined
import Derived.MakeChecks
import Derived.ProofKit
import Derived.OpenShut
import Derived.Lay
import Derived.JoinedCond
import Derived.LaidLaws
import Derived.Test.YtgiolidekcckiaaDoorPa9
set_option linter.unusedVariables false
set_option linter.unusedSimpArgs false
namespace Go.Js
open Go
def okN:JL→Prop
  | .nil=>True
  | .cons k _ ns sub rest=>(k=7→ns.length=sub.len)∧okN sub∧okN rest
def WR (out p out':BL):Prop:=out'=out++p∨(65536<out'.length∧65536<(out++p).length)
theorem WR.trans {a p b q c:BL} (h:WR a p b) (h':WR b q c) (hl:b.length≤c.length):WR a (p++q) c:=by
  rcases h with rfl | ⟨h1,h2⟩
  ·rcases h' with rfl | ⟨h3,h4⟩
   ·left;rw [List.append_assoc]
   ·right;exact ⟨h3,by rw [← List.append_assoc];exact h4⟩
  ·right
   refine ⟨by omega,?_⟩
   simp only [List.length_append] at h2 ⊢
   omega
theorem WR.refl (a:BL):WR a [] a:= .inl (by simp)
theorem Zjg:∀ (n:Nat) {l:JL} {k:Nat} {t:BL} {ns:List BL} {s r:JL},okN l→l.drop n = .cons k t ns s r→(k=7→ns.length=s.len)∧okN s
  | 0,l,k,t,ns,s,r,h,e=>by
    rw [show l=_ from e] at h
    exact ⟨h.1,h.2.1⟩
  | n+1,.nil,_,_,_,_,_,_,e=>by cases e
  | n+1,.cons _ _ _ _ r',_,_,_,_,_,h,e=>Zjg n h.2.2 e
end Go.Js
namespace Go.Proofs.YtgiolidekcckiaaDoor
open Go Go.Fw Go.Js
abbrev ctl:BL:=[8,12,10,13,9]
theorem Zox:∀ c:UInt8,c≠34→c≠92→0≤Lib.indexByte ctl c→((⟨#[98,102,110,114,116]⟩:ByteArray)[(Lib.indexByte ctl c).toNat]?).map (fun m=>([92,m]:BL))=some (ZaY c):=ZoR (by decide +kernel)
theorem Zow:∀ c:UInt8,c≠34→c≠92→Lib.indexByte ctl c<0→c.toNat<32→ZaY c=[92,117,48,48,ZlJ (c.toNat / 16),ZlJ (c.toNat % 16)]:=ZoR (by decide +kernel)
theorem Zm7:∀ c:UInt8,c≠34→c≠92→Lib.indexByte ctl c<0→¬ c.toNat<32→ZaY c=[c]:=ZoR (by decide +kernel)
abbrev Zrl:ByteArray:=⟨#[48,49,50,51,52,53,54,55,56,57,97,98,99,100,101,102]⟩
theorem ZnM:∀ n:Fin 16,Zrl[n.val]?=some (ZlJ n.val):=by decide +kernel
theorem ZnD:∀ b:Fin 256,ZjW .u8 ((b.val:Nat):Int) 4=((b.val / 16:Nat):Int):=by decide +kernel
theorem ZnC:∀ b:Fin 256,ZjN .u8 ((b.val:Nat):Int) 15=((b.val % 16:Nat):Int):=by decide +kernel
theorem Buf.app2 {h:Zb} {base:Nat} {x:Sl} {l new:BL} {n:Nat} {cells:List Value} {K:Sl→Zb→Prop} (hb:Buf h base x l) (hbase:base≤sz h) (hn:n=new.length) (hc:cells=new.map bv) (hs:l.length+new.length≤1000000000)
    (hk:∀ x' h',Buf h' base x' (l++new)→Upd (fun k=>x.blk=some k) h h'→(∀ j,x'.blk=some j→x.blk=some j∨sz h≤j)→sz h≤sz h'→K x' h'):Fw.app 5 1 1 [.int .u8 0] x n cells h K:=by
  subst hn hc
  have hlen:=hb.len
  have hcap:=hb.cap
  refine ⟨fun hroom=>?_,fun hgt=>⟨by omega,by omega,?_⟩⟩
  ·rcases hb.at_ with ⟨hp,h0⟩ | ⟨b,c,hp,hbb,hblk,hcl,hv,hne⟩
   ·left
    have hl0:new=[]:=List.eq_nil_of_length_eq_zero (by omega)
    subst hl0
    refine ⟨rfl,?_⟩
    have:l=[]:=List.eq_nil_of_length_eq_zero (by omega)
    subst this
    refine hk _ _ ⟨?_,hroom,hb.big,.inl ⟨hp,h0⟩⟩ (Upd.refl _ _) (fun j hj=> .inl hj) (Nat.le_refl _)
    simpa using hlen
   ·right
    refine ⟨b,0,hp,ZcK hblk (by simp [hcl];omega),ZhP new,?_⟩
    have hp1:=ZhR (o:=0+x.len*1) (vs:=new.map bv) hblk
    refine hk _ _ ⟨by simp [hlen],hroom,hb.big,.inr ⟨b,_,hp,hbb,hp1,by rw [Za5];exact hcl,?_,by simp [hne]⟩⟩ ((Upd.puts h b _ _).mono fun k _ hk=>by subst hk;simp [Sl.blk,hp]) (fun j hj=> .inl hj) (by rw [Zce];exact Nat.le_refl _)
    have:=Zcp (new.map bv) (0+x.len*1) c (by simp [hcl];omega)
    simp only [List.length_map] at this
    rw [List.map_append,hv]
    simpa using this.symm
  ·have hrow:rdS x 1 h fun old=>old=l.map bv:=by
     rcases hb.at_ with ⟨hp,h0⟩ | ⟨b,c,hp,hbb,hblk,hcl,hv,_⟩
     ·have:l=[]:=List.eq_nil_of_length_eq_zero (by omega)
      subst this
      exact .inl ⟨by simpa using hlen,rfl⟩
     ·refine .inr ⟨b,0,l.map bv,hp,by simp [hlen],Zbw hblk fun i v hi=>?_,rfl⟩
      rw [hv,List.getElem?_take] at hi
      split at hi
      ·simpa using hi
      ·cases hi
   have next:∀ cap,x.len+new.length≤cap→cap<9223372036854775808→K ⟨some ⟨h.size,0,none⟩,x.len+new.length,cap⟩ (h.push (.cells (l.map bv++new.map bv++YQ [.int .u8 0] (cap - (x.len+new.length))).toArray 5)):=fun cap h1 h2=>by
     refine hk _ _ ⟨by simp [hlen],h1,h2,.inr ⟨h.size,_,rfl,hbase,Zdu,?_,?_,fun h9=>by have h8:=congrArg List.length h9;rw [List.length_append,List.length_nil] at h8;omega⟩⟩ ((Ext.push h _).upd _) (fun j hj=> .inr (by simp [Sl.blk] at hj;subst hj;exact Nat.le_refl _)) (by rw [Zk2];omega)
     ·simp only [List.length_append,List.length_map,Za8,List.length_singleton];omega
     ·rw [List.map_append,List.take_append_of_le_length (by simp [hlen]),List.take_of_length_le (by simp [hlen])]
   rcases hrow with ⟨a,b⟩ | ⟨b,o,vs,a1,a2,a3,a4⟩
   ·refine .inl ⟨a,?_⟩
    have:l=[]:=by cases l with | nil=>rfl | cons c l=>cases b
    subst this
    exact next
   ·exact .inr ⟨b,o,vs,a1,a2,a3,by rw [a4];exact next⟩
def ZkB (h:Zb) (B j:Nat):Prop:=j=B∨∃ (c:Value) (x:Sl) (T:TypeId),obj h B=some (.cells [c,slV x].toArray T (0,0))∧x.blk=some j
structure BU (B:Nat) (h h':Zb):Prop where
  upd:Upd (ZkB h B) h h'
  foot:∀ j,ZkB h' B j→ZkB h B j∨sz h≤j
theorem BU.refl (B:Nat) (h:Zb):BU B h h:=⟨Upd.refl _ _,fun j hj=> .inl hj⟩
theorem BU.trans {B:Nat} {a b c:Zb} (u:BU B a b) (u':BU B b c):BU B a c:=by
  have h1:=Zdl u.upd
  refine ⟨⟨Nat.le_trans u.upd.size u'.upd.size,fun k hk hn=>(u'.upd.old k (Nat.lt_of_lt_of_le hk u.upd.size) fun h9=>?_).trans (u.upd.old k hk hn)⟩,fun j hj=>?_⟩
  ·rcases u.foot k h9 with h8 | h8
   ·exact hn h8
   ·have:sz a=a.size:=rfl;omega
  ·rcases u'.foot j hj with h9 | h9
   ·exact u.foot j h9
   ·right;omega
theorem ZnZ {x y:Sl} (h:slV x=slV y):x=y:=by
  rw [ZpA] at h;exact h
theorem Zdf {h:Zb} {B:Nat} {c:Value} {x:Sl} {T:TypeId} (hb:obj h B=some (.cells [c,slV x].toArray T (0,0))) {j:Nat}:ZkB h B j↔j=B∨x.blk=some j:=by
  constructor
  ·rintro (h1 | ⟨c',x',T',h2,h3⟩)
   ·exact .inl h1
   ·rw [hb] at h2
    have e:[c,slV x]=[c',slV x']:=by
      have:=Option.some.inj h2
      injection this with e1 _ _
      simpa using e1
    simp only [List.cons.injEq,and_true] at e
    rw [ZnZ e.2]
    exact .inr h3
  ·rintro (h1 | h1)
   ·exact .inl h1
   ·exact .inr ⟨c,x,T,hb,h1⟩
theorem Ext.bu {B:Nat} {h h':Zb} (e:Ext h h') (hB:B<sz h):BU B h h':=by
  refine ⟨e.upd _,fun j hj=>?_⟩
  rcases hj with h1 | ⟨c,x,T,h2,h3⟩
  ·exact .inl (.inl h1)
  ·rw [YU e hB] at h2
   exact .inl (.inr ⟨c,x,T,h2,h3⟩)
theorem BU.keep {B:Nat} {h h':Zb} (u:BU B h h') {b:Nat} {x:Obj} (hb:obj h b=some x) (hn:¬ ZkB h B b):obj h' b=some x∧¬ ZkB h' B b:=by
  refine ⟨Yj hb u.upd hn,fun h9=>?_⟩
  rcases u.foot b h9 with h8 | h8
  ·exact hn h8
  ·have:=Zav hb;omega
theorem Zgs {h:Zb} {B:Nat} {T:TypeId} {out:BL} (hb:Bld h B T out) {K:HP} (hk:∀ h' x,Zqm T→BU B h h'→obj h' B=some (.cells [.pointer (At B),slV x].toArray T (0,0))→Buf h' (B+1) x out→B<sz h'→K h'):Zz (At B) K h:=by
  have hlt:=hb.lt
  obtain ⟨hT,c,x,b,hc,hx⟩:=hb
  refine ⟨B,c,slV x,T,rfl,b,hT,?_⟩
  rcases hc with rfl | rfl
  ·left
   refine ⟨rfl,?_⟩
   have hp:obj (h.put B 0 (.pointer (some ⟨B,0,none⟩))) B=some (.cells [.pointer (At B),slV x].toArray T (0,0)):=by rw [ZeV,if_pos rfl,b,Zcm];rfl
   have hbuf:Buf (h.put B 0 (.pointer (some ⟨B,0,none⟩))) (B+1) x out:=hx.congr fun k hk hl=>by rw [ZeV,if_neg (by have:=(hx.lt hk).1;omega)]
   refine hk _ x hT ⟨(Upd.put h B 0 _).mono fun k _ hk=>by subst hk;exact .inl rfl,fun j hj=> .inl ?_⟩ hp hbuf (by rw [Znt];exact hlt)
   exact (Zdf b).2 ((Zdf hp).1 hj)
  ·exact .inr ⟨rfl,hk h x hT (BU.refl _ _) b hx hlt⟩
theorem ZjI {h:Zb} {B:Nat} {T:TypeId} {out new:BL} {x:Sl} {n:Nat} {cells:List Value} (hT:Zqm T) (hb:obj h B=some (.cells [.pointer (At B),slV x].toArray T (0,0))) (hx:Buf h (B+1) x out) (hn:n=new.length) (hc:cells=new.map bv) (hs:out.length+new.length≤1000000000) {K:HP}
    (hk:∀ h',Bld h' B T (out++new)→BU B h h'→K h'):Fw.app 5 1 1 [.int .u8 0] x n cells h fun t5 h6=>Zd (At B) fun b7 o8=>st h6 b7 (o8+1) (.slice t5.ptr t5.len t5.cap) K:=by
  have hlt:=Zav hb
  refine hx.app2 (by omega) hn hc hs fun x' h6 hx6 u6 f6 z6=>?_
  have hb6:obj h6 B=some (.cells [.pointer (At B),slV x].toArray T (0,0)):=Yj hb u6 fun e=>by have:=(hx.lt e).1;omega
  refine ZG (Zhs hb6 (by simp) ZhO fun h9 c9 u9 z9=>?_)
  have c9':obj h9 B=some (.cells [.pointer (At B),slV x'].toArray T (0,0)):=c9
  have hbf:Buf h9 (B+1) x' (out++new):=hx6.congr fun k hk hl=>Yq u9 hl (by have:=(hx6.lt hk).1;omega)
  refine hk h9 ⟨hT,_,x',c9',.inr rfl,hbf⟩ ⟨⟨by have:=u6.size;have:=u9.size;omega,fun j hj hn=>?_⟩,fun j hj=>?_⟩
  ·have n1:¬ x.blk=some j:=fun e=>hn ((Zdf hb).2 (.inr e))
   have n2:¬ j=B:=fun e=>hn ((Zdf hb).2 (.inl e))
   have hs0:sz h=h.size:=rfl
   exact (Yq u9 (by omega) n2).trans (Yq u6 hj n1)
  ·rcases (Zdf c9').1 hj with h9 | h9
   ·exact .inl (.inl h9)
   ·rcases f6 j h9 with h8 | h8
    ·exact .inl ((Zdf hb).2 (.inr h8))
    ·exact .inr h8
theorem Zab {h:Zb} {B:Nat} {T:TypeId} {out:BL} (hb:Bld h B T out) {c:UInt8} {n:Int} (hn:n=c.toNat) (hs:out.length<900000000) {K:Value→HP} (hk:∀ h',Bld h' B T (out++[c])→BU B h h'→K .nilIface h'):Zl (At B) n K h:=by
  subst hn
  unfold Zl Yd
  refine Zgs hb fun h1 x hT u1 c1 hx l1=>ZG (rL (Zm c1 rfl) ?_)
  refine Zrg [c] 1 rfl rfl (by decide) fun b3 h4 hr e4 _=>hr.rd ?_
  have hx4:=hx.congr (h':=h4) fun k hk hl=>YU e4 hl
  exact ZjI hT (Yn c1 e4) hx4 (new:=[c]) rfl rfl (by simp;omega) fun h9 b9 u9=>hk h9 b9 (u1.trans ((Ext.bu e4 l1).trans u9))
theorem ZkF {h:Zb} {B:Nat} {T:TypeId} {out:BL} (hb:Bld h B T out) {s:ByteArray} (hs:out.length+s.size<900000000) {K:Int→Value→HP} (hk:∀ h',Bld h' B T (out++s.data.toList)→BU B h h'→K s.size .nilIface h'):Zk (At B) s K h:=by
  unfold Zk Z5
  refine Zc (Zgs hb fun h1 x hT u1 c1 hx l1=>ZG (rL (Zm c1 rfl) ?_))
  exact ZjI hT c1 hx (new:=s.data.toList) (by simp) rfl (by simp;omega) fun h9 b9 u9=>Zc (hk h9 b9 (u1.trans u9))
section
variable {h:Zb} {B:Nat} {T:TypeId} {out:BL}
theorem Zjm (hb:Bld h B T out) {K:Int→HP} (hk:K out.length h):Z0 (At B) K h:=by
  unfold Z0 Xj
  obtain ⟨hT,c,x,b,hc,hx⟩:=hb
  refine Zc (ZG (rL (s:=x) (Zm b rfl) (Zc ?_)))
  rw [hx.len];exact hk
theorem Zm8 (c:UInt8):(ZaY c).length≤6:=by
  have:∀ b:Fin 256,(ZaY ⟨⟨b⟩⟩).length≤6:=by decide +kernel
  rcases c with ⟨⟨b⟩⟩
  exact this b
theorem ZfL (hb:Bld h B T out) {t:BL} (hs:out.length+(ZaN t).length<800000000) {K:HP} (hk:∀ h',Bld h' B T (out++ZaN t)→BU B h h'→K h'):YF (At B) (Zg t) K h:=by
  unfold YF X2
  have hq:(ZaN t).length=(t.flatMap ZaY).length+2:=by simp [ZaN]
  have e_len:∀ c:UInt8,1≤(ZaY c).length:=fun c=>by
    have:∀ b:Fin 256,1≤(ZaY ⟨⟨b⟩⟩).length:=by decide +kernel
    rcases c with ⟨⟨b⟩⟩
    exact this b
  have tl:∀ t:BL,t.length≤(t.flatMap ZaY).length:=fun t=>by
    induction t with
    | nil=>simp
    | cons c t ih=>have:=e_len c;simp only [List.flatMap_cons,List.length_append,List.length_cons];omega
  have htl:=tl t
  refine ZG (Zab (c:=34) hb rfl (by omega) fun h1 b1 u1=>?_)
  refine Z2 (fun p h'=>∃ i:Nat,p.1=i∧i≤t.length∧Bld h' B T (out++34::(t.take i).flatMap ZaY)∧BU B h h') (fun p _=>(t.length - p.1).toNat) ⟨0,rfl,Nat.zero_le _,by simpa using b1,u1⟩ ?_
  rintro ⟨i0,u⟩ h2 ⟨i,hi,hle,b2,u2⟩
  dsimp only at hi ⊢
  subst hi
  have pl:((t.take i).flatMap ZaY).length≤(t.flatMap ZaY).length:=by
    conv=>rhs;rw [← List.take_append_drop i t]
    rw [List.flatMap_append,List.length_append];omega
  refine Zp (fun hlt=>Zc ?_) fun hge=>?_
  ·have hia:i<t.length:=by rw [XD] at hlt;omega
   have hx:(Zg t)[(i:Int).toNat]?=some t[i]:=by
     rw [Int.toNat_natCast,getElem?_pos (Zg t) i (by rw [XD];exact hia)]
     simp [Zg]
     rfl
   refine ⟨t[i],by omega,hx,Zc ?_⟩
   have hstep:(t.take (i+1)).flatMap ZaY=(t.take i).flatMap ZaY++ZaY t[i]:=by
     rw [List.take_add_one,List.getElem?_eq_getElem hia,List.flatMap_append];simp
   have pl1:((t.take (i+1)).flatMap ZaY).length≤(t.flatMap ZaY).length:=by
     conv=>rhs;rw [← List.take_append_drop (i+1) t]
     rw [List.flatMap_append,List.length_append];omega
   rw [hstep,List.length_append] at pl1
   generalize hc:t[i]=c at hstep pl1
   have h6:=Zm8 c
   have done:∀ {h':Zb},Bld h' B T ((out++34::(t.take i).flatMap ZaY)++ZaY c)→BU B h2 h'→(∃ i_1:Nat,IntKind.wrap .i64 ((i:Int)+1)=i_1∧i_1≤t.length∧Bld h' B T (out++34::(t.take i_1).flatMap ZaY)∧BU B h h')∧(t.length - IntKind.wrap .i64 ((i:Int)+1)).toNat<(t.length - (i:Int)).toNat:=fun {h'} b' u'=>by
     rw [Y5 (by omega) (by omega)]
     refine ⟨⟨i+1,rfl,by omega,?_,u2.trans u'⟩,by omega⟩
     rw [hstep]
     simpa using b'
   have sz2:(out++34::(t.take i).flatMap ZaY).length+10<900000000:=by rw [List.length_append,List.length_cons];omega
   refine Ze6 ?_
   rw [toU]
   show ZJ (Lib.indexByte ctl c) _
   refine Zc ?_
   refine Zy (fun p h'=>h'=h2∧(p.1=true↔c=34∨c=92)) ?_ ?_
   ·rintro ⟨b,u⟩ h3 ⟨rfl,hb3⟩
    dsimp only at hb3 ⊢
    cases hbb:b with
    | true =>
      have he:ZaY c=[92,c]:=by unfold ZaY;rw [if_pos (hb3.1 hbb)]
      refine Zt rfl (ZG (Zab (c:=92) b2 rfl (by omega) fun h4 b4 u4=>ZG (Zab (c:=c) b4 rfl (by simp at sz2 ⊢;omega) fun h5 b5 u5=>done ?_ (u4.trans u5))))
      rw [he]
      simpa using b5
    | false =>
      have hn:¬ (c=34∨c=92):=fun e=>by have:=hb3.2 e;rw [hbb] at this;cases this
      have n34:c≠34:=fun e=>hn (.inl e)
      have n92:c≠92:=fun e=>hn (.inr e)
      refine Zo rfl (Zf (Zp (fun hk0=>?_) fun hk0=>Zf (Zp (fun h32=>?_) fun h32=>?_)))
      ·have key:=Zox c n34 n92 hk0
       cases hm:(⟨#[98,102,110,114,116]⟩:ByteArray)[(Lib.indexByte ctl c).toNat]? with
       | none=>rw [hm] at key;cases key
       | some m =>
         rw [hm] at key
         have he:ZaY c=[92,m]:=by simpa using key.symm
         refine ZG (Zab (c:=92) b2 rfl (by omega) fun h4 b4 u4=>ZG ⟨m,hk0,hm,Zab (c:=m) b4 rfl (by simp at sz2 ⊢;omega) fun h5 b5 u5=>done ?_ (u4.trans u5)⟩)
         rw [he]
         simpa using b5
      ·have he:=Zow c n34 n92 (by omega) (by omega)
       have hi16:Zrl[(ZjW .u8 (c.toNat:Int) 4).toNat]?=some (ZlJ (c.toNat / 16)):=by
         rw [ZnD ⟨c.toNat,c.toNat_lt⟩,Int.toNat_natCast]
         exact ZnM ⟨c.toNat / 16,by omega⟩
       have lo16:Zrl[(ZjN .u8 (c.toNat:Int) 15).toNat]?=some (ZlJ (c.toNat % 16)):=by
         rw [ZnC ⟨c.toNat,c.toNat_lt⟩,Int.toNat_natCast]
         exact ZnM ⟨c.toNat % 16,by omega⟩
       have p1:0≤ZjW .u8 (c.toNat:Int) 4:=by rw [ZnD ⟨c.toNat,c.toNat_lt⟩];omega
       have p2:0≤ZjN .u8 (c.toNat:Int) 15:=by rw [ZnC ⟨c.toNat,c.toNat_lt⟩];omega
       refine ZG (ZkF b2 (s:=Zg [92,117,48,48]) (by rw [XD];simp at sz2 ⊢;omega) fun h4 b4 u4=>ZG ⟨by decide,_,p1,hi16,?_⟩)
       refine Zab b4 rfl (by simp at sz2 ⊢;omega) fun h5 b5 u5=>ZG ⟨_,p2,lo16,?_⟩
       refine Zab b5 rfl (by simp at sz2 ⊢;omega) fun h6 b6 u6=>done ?_ ((u4.trans u5).trans u6)
       rw [he]
       simpa using b6
      ·have he:=Zm7 c n34 n92 (by omega) (by omega)
       refine ZG (Zab (c:=c) b2 rfl (by omega) fun h4 b4 u4=>done ?_ u4)
       rw [he];exact b4
   ·refine Zt1 34 rfl (fun e=>⟨rfl,by simp [e]⟩) fun n34=>Zf ⟨rfl,?_⟩
    simp only [n34,false_or]
    constructor
    ·intro hb;exact Zdm (d:=92) (beq_iff_eq.1 hb)
    ·rintro rfl;rfl
  ·have hil:i=t.length:=by rw [XD] at hge;omega
   subst hil
   rw [List.take_length] at b2
   refine ZG (Zab (c:=34) b2 rfl (by rw [List.length_append,List.length_cons];omega) fun h3 b3 u3=>hk h3 ?_ (u2.trans u3))
   simpa [ZaN] using b3
end
def Zmf (f60:Zi1) (v:JV):Prop:=∀ {h:Zb} {B:Nat} {out:BL} {z:VT5} {S:Nat→Prop} {K:HP},Zcz h S z v→(∀ j,S j→j<B)→Bld h B 45 out→(v.k=7→v.ns.length=v.sub.len)→okN v.sub→out.length+(YS v).length<800000000 →
  (∀ h' out',Bld h' B 45 out'→WR out (YS v) out'→out.length≤out'.length→out'.length≤out.length+(YS v).length→BU B h h'→K h')→f60 (At B) z K h
theorem Ziv {ob:Bool} {first:Bool} {ns:List BL} {k:Nat} {t:BL} {ns':List BL} {sub rest:JL}:ZQ ob first ns (.cons k t ns' sub rest)=Zif first++nmB ob ns++YS ⟨k,t,ns',sub⟩++ZQ ob false ns.tail rest:=rfl
theorem Zfc {h:Zb} {B:Nat} {T:TypeId} {out:BL} (hb:Bld h B T out) {j:Nat} (hj:ZkB h B j):B≤j∧j<sz h:=by
  have hlt:=hb.lt
  obtain ⟨hT,c,x,b,hc,hx⟩:=hb
  rcases (Zdf b).1 hj with h9 | h9
  ·omega
  ·have:=hx.lt h9;omega
theorem Zjw {h h':Zb} {B:Nat} {T:TypeId} {out:BL} (hb:Bld h B T out) (e:Ext h h') {j:Nat} (hj:ZkB h' B j):ZkB h B j:=by
  rcases hj with h9 | ⟨c,x,T',h9,h8⟩
  ·exact .inl h9
  ·rw [YU e hb.lt] at h9
   exact .inr ⟨c,x,T',h9,h8⟩
theorem Zes {f60:Zi1} {v:JV} (hsub:∀ i k t ns s r,v.sub.drop i = .cons k t ns s r→Zmf f60 ⟨k,t,ns,s⟩):Zmf (YZ f60) v:=by
  intro h B out z S K hv hS hb hns7 hok hlen hk
  unfold YZ XI
  have hBs:=hb.lt
  have hs:sz h=h.size:=rfl
  refine ZbA fun h1 c1 e1 z1=>ZG ?_
  have c1':obj h1 h.size=some (.cells (XQ z).toArray 26 (0,0)):=c1
  have b1:Bld h1 B 45 out:=hb.congr fun j _ hl=>YU e1 hl
  have u01:BU B h h1:=Ext.bu e1 hBs
  have f1:¬ ZkB h1 B h.size:=fun h9=>by
    rcases h9 with h8 | ⟨c,x,T,h8,h7⟩
    ·omega
    ·rw [YU e1 hBs] at h8
     have:=(Zfc hb (.inr ⟨c,x,T,h8,h7⟩)).2
     omega
  refine Zjm b1 (Zp (fun hbig=>?_) fun hsmall=>?_)
  ·refine hk h1 out b1 (.inr ⟨by omega,by simp;omega⟩) (Nat.le_refl _) (by omega) u01
  have e_:∀ {n:Nat} {A B:Prop},(v.k=n→A)→(v.k≠n→B)→ZP (z.1 ==(n:Int)) fun t=>ZE t A B:=fun {n A B} ha hb=>by
    rw [hv.1]
    exact Zf (Xd (fun e=>ha (by omega)) fun e=>hb (by omega))
  have hp:YS v=prV v.k v.t (ZQ (decide (v.k=7)) true v.ns v.sub):=rfl
  have write:∀ {w:ByteArray} {wl:BL} {Kw:Int→Value→HP},w.data.toList=wl→YS v=wl→(∀ i e h',Kw i e h'=K h')→Zk (At B) w Kw h1:=fun {w wl Kw} hw hpw hK =>
    ZkF b1 (by have:w.size=wl.length:=by rw [← hw];simp
               rw [← hpw] at this;omega) fun h' b' u'=>by
     rw [hK]
     rw [hw,← hpw] at b'
     exact hk h' _ b' (.inl rfl) (by simp) (by simp) (u01.trans u')
  refine rI (Zm c1' rfl) (e_ (n:=1) (fun e=>ZG (write (wl:=[110,117,108,108]) rfl (by rw [hp,e];rfl) fun _ _ _=>rfl)) fun n1=>e_ (n:=2) (fun e=>ZG (write (wl:=[102,97,108,115,101]) rfl (by rw [hp,e];rfl) fun _ _ _=>rfl)) fun n2 =>
    e_ (n:=3) (fun e=>ZG (write (wl:=[116,114,117,101]) rfl (by rw [hp,e];rfl) fun _ _ _=>rfl)) fun n3=>e_ (n:=4) (fun e=>ZG (rS (Zm c1' rfl) (write (wl:=v.t) (by rw [hv.2.1]) (by rw [hp,e];rfl) fun _ _ _=>rfl))) fun n4=>e_ (n:=5) (fun e=>?_) fun n5=>?_)
  ·refine rS (Zm c1' rfl) ?_
   rw [hv.2.1]
   have hpq:YS v=ZaN v.t:=by rw [hp,e];rfl
   rw [hpq] at hlen hk
   exact ZfL b1 hlen fun h' b' u'=>hk h' _ b' (.inl rfl) (by simp) (by simp) (u01.trans u')
  ·
   have hpl:YS v=(if v.k=7 then 123 else 91)::(ZQ (decide (v.k=7)) true v.ns v.sub++[if v.k=7 then 125 else 93]):=by
     rw [hp]
     unfold prV
     rw [if_neg n1,if_neg n2,if_neg n3,if_neg n4,if_neg n5]
     split<;>rfl
   have hll:(YS v).length=(ZQ (decide (v.k=7)) true v.ns v.sub).length+2:=by rw [hpl];simp
   generalize hop:(if v.k=7 then 123 else 91:UInt8)=op at hpl
   generalize hcl:(if v.k=7 then 125 else 93:UInt8)=cl at hpl
   refine Zy (fun p h'=>h'=h1∧p.1=Zg [op,cl]) ?_ ?_
   ·rintro ⟨ends,u⟩ h2 ⟨rfl,hends⟩
    dsimp only at hends ⊢
    subst hends
    refine ZG ⟨op,by omega,rfl,?_⟩
    refine Zab b1 rfl (by omega) fun h3 b3 u3=>?_
    obtain ⟨c3,f3⟩:=u3.keep c1' f1
    refine rL (s:=z.2.2.1) (Zm c3 rfl) ?_
    obtain ⟨a1,a2,a3,a4,cx,a5,a6,a7⟩:=id hv
    have hlx:z.2.2.1.len=v.sub.len:=by have:=a5.len;have:=a7.len;omega
    have hbig:=a5.big
    have hcap:=a5.cap
    have keepS:∀ {a:Zb},BU B h a→∀ j,S j→j<sz h→obj a j=obj h j:=fun u j hj hl=>Yq u.upd hl fun h9=>by have:=(Zfc hb h9).1;have:=hS j hj;omega
    refine Z2 (fun p h'=>∃ (i:Nat) (q o':BL),p.1=i∧i≤v.sub.len∧Bld h' B 45 o'∧WR (out++[op]) q o'∧(out++[op]).length≤o'.length∧o'.length≤(out++[op]).length+q.length∧BU B h3 h' ∧
        ZQ (decide (v.k=7)) true v.ns v.sub=q++ZQ (decide (v.k=7)) (decide (i=0)) (v.ns.drop i) (v.sub.drop i)) (fun p _=>(v.sub.len - p.1).toNat)
      ⟨0,[],out++[op],rfl,Nat.zero_le _,b3,WR.refl _,Nat.le_refl _,by simp,BU.refl _ _,rfl⟩ ?_
    rintro ⟨i0,u⟩ h4 ⟨i,q,o',hi,hle,b4,w4,l4,l4',u4,q4⟩
    dsimp only at hi ⊢
    subst hi
    obtain ⟨c4,f4⟩:=u4.keep c3 f3
    have u04:=u01.trans (u3.trans u4)
    refine Zp (fun hlt=>?_) fun hge=>?_
    ·have hia:i<v.sub.len:=by omega
     obtain ⟨k,t,ns,s,r,hd⟩:=JL.drop_cons hia
     have hpd:=Ziv (ob:=decide (v.k=7)) (first:=decide (i=0)) (ns:=v.ns.drop i) (k:=k) (t:=t) (ns':=ns) (sub:=s) (rest:=r)
     rw [hd,hpd] at q4
     have hqlen:=congrArg List.length q4
     simp only [List.length_append] at hqlen
     have ra:Row h4 z.2.2.1 4 cx:=Zax a5 a6 (keepS u04)
     have la:X8 h4 S v.sub cx:=a7.keep (keepS u04) fun j hj=>hj
     refine Zlz ra la hd rfl fun zi hzi=>?_
     refine ZbA fun h5 c5 e5 z5=>Zc ?_
     have c5':obj h5 h4.size=some (.cells zV.toArray 26 (0,0)):=c5
     have hs4:sz h4=h4.size:=rfl
     have B4:=b4.lt
     refine Zmy c5' (by simp) (Zca zi) fun h6 c6 u6 z6=>?_
     have c6':obj h6 h4.size=some (.cells (XQ zi).toArray 26 (0,0)):=c6
     have e46:Ext h4 h6:=e5.updS u6 fun j hj=>by omega
     have b6:Bld h6 B 45 o':=b4.congr fun j _ hl=>YU e46 hl
     have ft6:¬ ZkB h6 B h4.size:=fun h9=>by have:=(Zfc b4 (Zjw b4 e46 h9)).2;omega
     have fv6:¬ ZkB h6 B h.size:=fun h9=>f4 (Zjw b4 e46 h9)
     have cv6:obj h6 h.size=some (.cells (XQ z).toArray 26 (0,0)):=Yn c4 e46
     have u06:=u04.trans (Ext.bu e46 B4)
     have hqs:∀ (x:BL),(out++[op]).length+(q++x).length=out.length+1+q.length+x.length:=fun x=>by simp;omega
     refine Zy (fun _ h'=>∃ o7,Bld h' B 45 o7∧WR (out++[op]) (q++Zif (decide (i=0))) o7∧(out++[op]).length≤o7.length∧o7.length≤(out++[op]).length+(q++Zif (decide (i=0))).length∧BU B h6 h') ?_ ?_
     ·rintro ⟨⟩ h7 ⟨o7,b7,w7,l7,l7',u7⟩
      obtain ⟨cv7,fv7⟩:=u7.keep cv6 fv6
      obtain ⟨ct7,ft7⟩:=u7.keep c6' ft6
      have u07:=u06.trans u7
      refine Zy (fun _ h'=>∃ o8,Bld h' B 45 o8∧WR (out++[op]) (q++Zif (decide (i=0))++nmB (decide (v.k=7)) (v.ns.drop i)) o8∧(out++[op]).length≤o8.length∧o8.length≤(out++[op]).length+(q++Zif (decide (i=0))++nmB (decide (v.k=7)) (v.ns.drop i)).length∧BU B h7 h') ?_ ?_
      ·rintro ⟨⟩ h8 ⟨o8,b8,w8,l8,l8',u8⟩
       obtain ⟨ct8,ft8⟩:=u8.keep ct7 ft7
       have u08:=u07.trans u8
       refine rI (Zm ct8 rfl) (rS (Zm ct8 rfl) (rL (s:=zi.2.2.1) (Zm ct8 rfl) (rL (s:=zi.2.2.2.1) (Zm ct8 rfl) ?_)))
       have hokd:=Zjg i hok hd
       refine hsub i k t ns s r hd (S:=S) (hzi.keep (fun j hj hl=>?_) fun j hj=>hj) hS b8 hokd.1 hokd.2 (by simp only [List.length_append,List.length_singleton] at l8' ⊢;omega) fun h9 o9 b9 w9 l9 l9' u9=>?_
       ·have u48:=(Ext.bu e46 B4).trans (u7.trans u8)
        exact Yq u48.upd hl fun h9=>by have:=(Zfc b4 h9).1;have:=hS j hj;omega
       ·rw [Y5 (by omega) (by omega)]
        refine ⟨⟨i+1,q++Zif (decide (i=0))++nmB (decide (v.k=7)) (v.ns.drop i)++YS ⟨k,t,ns,s⟩,o9,rfl,by omega,b9,WR.trans w8 w9 l9,by omega,?_,(Ext.bu e46 B4 |> u4.trans).trans ((u7.trans u8).trans u9),?_⟩,by omega⟩
        ·simp only [List.length_append,List.length_singleton] at l8' l9' ⊢;omega
        ·rw [q4,JL.drop_succ i _ hd]
         simp
      ·refine rI (Zm cv7 rfl) ?_
       rw [hv.1]
       refine Xd (fun e7=>?_) fun e7=>?_
       ·have k7:v.k=7:=by omega
        have hnl:=hns7 k7
        have hin:i<v.ns.length:=by omega
        refine rL (s:=z.2.2.2.1) (Zm cv7 rfl) (ZiG (Zax a3 a4 (keepS u07)) (List.getElem?_eq_getElem hin) rfl ?_)
        have hnm:nmB (decide (v.k=7)) (v.ns.drop i)=ZaN v.ns[i]++[58]:=by
          rw [decide_eq_true k7,List.drop_eq_getElem_cons hin];rfl
        rw [hnm] at hqlen ⊢
        simp only [List.length_append,List.length_singleton] at hqlen l7'
        refine ZfL b7 (by omega) fun h8 b8 u8=>ZG (Zab (c:=58) b8 rfl (by simp only [List.length_append];omega) fun h9 b9 u9=>?_)
        refine ⟨_,b9,?_,?_,?_,u8.trans u9⟩
        ·have:o7++ZaN v.ns[i]++[58]=o7++(ZaN v.ns[i]++[58]):=by simp
         rw [this]
         exact WR.trans w7 (.inl rfl) (by simp)
        ·simp only [List.length_append,List.length_singleton];simp only [List.length_append,List.length_singleton] at l7;omega
        ·simp only [List.length_append,List.length_singleton];omega
       ·have hnm:nmB (decide (v.k=7)) (v.ns.drop i)=[]:=by
          rw [decide_eq_false (show ¬ v.k=7 by omega)];rfl
        rw [hnm,List.append_nil]
        exact ⟨o7,b7,w7,l7,l7',BU.refl _ _⟩
     ·refine Zp (fun hpos=>?_) fun hpos=>?_
      ·have hsep:Zif (decide (i=0))=[44]:=by rw [decide_eq_false (show ¬ i=0 by omega)];rfl
       rw [hsep] at hqlen ⊢
       simp only [List.length_append,List.length_singleton] at l4' hqlen
       refine ZG (Zab (c:=44) b6 rfl (by omega) fun h7 b7 u7=>⟨_,b7,WR.trans w4 (.inl rfl) (by simp),?_,?_,u7⟩)
       ·simp only [List.length_append,List.length_singleton];simp only [List.length_append,List.length_singleton] at l4;omega
       ·simp only [List.length_append,List.length_singleton];omega
      ·have hsep:Zif (decide (i=0))=[]:=by rw [decide_eq_true (show i=0 by omega)];rfl
       rw [hsep,List.append_nil]
       exact ⟨o',b6,w4,l4,l4',BU.refl _ _⟩
    ·have hin:i=v.sub.len:=by omega
     rw [JL.drop_nil (by omega)] at q4
     have q5:ZQ (decide (v.k=7)) true v.ns v.sub=q:=by rw [q4];simp [ZQ]
     have hql:q.length=(ZQ (decide (v.k=7)) true v.ns v.sub).length:=by rw [q5]
     simp only [List.length_append,List.length_singleton] at l4 l4'
     refine ZG ⟨cl,by omega,rfl,Zab b4 rfl (by omega) fun h9 b9 u9=>?_⟩
     refine hk h9 _ b9 ?_ (by simp only [List.length_append];omega) (by simp only [List.length_append,List.length_singleton];omega) (u04.trans u9)
     have hpj:YS v=[op]++q++[cl]:=by rw [hpl,q5];simp
     rw [hpj]
     rcases w4 with e4 | ⟨g1,g2⟩
     ·left;rw [e4];simp
     ·right
      simp only [List.length_append,List.length_singleton] at g2 ⊢
      omega
   ·refine rI (Zm c1' rfl) ?_
    rw [hv.1]
    refine Xd (fun e=>⟨rfl,?_⟩) fun e=>⟨rfl,?_⟩
    ·have:v.k=7:=by omega
     rw [← hop,← hcl,if_pos this,if_pos this]
    ·have:v.k≠7:=by omega
     rw [← hop,← hcl,if_neg this,if_neg this]
end Go.Proofs.YtgiolidekcckiaaDoor
namespace Go.Js
open Go
theorem Ze4 {l:JL}:l.isNil=true↔l = .nil:=by cases l<;>simp [JL.isNil]
theorem ZhS {t:BL}:ZoL t=true↔ZcT t = .ok () []∧t.length≤65536:=by
  constructor
  ·intro h
   unfold ZoL at h
   cases hp:Zbr t with
   | err e k=>rw [hp] at h;cases h
   | ok v =>
     rw [hp] at h
     simp only [Bool.and_eq_true,decide_eq_true_eq] at h
     obtain ⟨hk,ht⟩:=h
     have hl:=(Ziy hp).2.2
     refine ⟨?_,hl⟩
     rw [Zdw hl] at hp
     cases h1:ZR 64 t with
     | err e r=>rw [h1] at hp;cases hp
     | ok w r =>
       rw [h1] at hp
       simp only at hp
       split at hp
       ·cases hp
        have hv:∀ {op:Bool→BL→Out JV},(∀ b c l w r,op b (c::l) = .ok w r→w.k≠4)→Zb4 op t = .ok v r→ZcT t = .ok () []:=by
          intro op hop hg
          unfold Zb4 at hg
          split at hg
          ·cases hg
          ·rename_i c l1 e
           have hs:=Za2 t
           rw [e] at hs
           split at hg
           ·exact absurd hk (hop _ _ _ _ _ hg)
           split at hg
           ·exact absurd hk (hop _ _ _ _ _ hg)
           split at hg
           ·obtain ⟨_,_,_,h2⟩:=ZO hg;cases h2;cases hk
           split at hg
           ·obtain ⟨_,_,_,h2⟩:=ZO hg;cases h2;cases hk
           split at hg
           ·obtain ⟨_,_,_,h2⟩:=ZO hg;cases h2;cases hk
           split at hg
           ·obtain ⟨_,_,_,h2⟩:=ZO hg;cases h2;cases hk
           split at hg
           ·obtain ⟨_,r1,h3,h2⟩:=ZO hg
            cases h2
            simp only at ht
            have hsuf:=Zeo.sf.suf h3
            obtain ⟨x,hx⟩:=hsuf
            have hu:upto (c::l1) r=x:=by rw [← hx,Xz]
            rw [hu] at ht
            have hlen:=congrArg List.length hx
            rw [ht,List.length_append] at hlen
            have hr0:r=[]:=List.eq_nil_of_length_eq_zero (by omega)
            subst hr0
            rw [List.append_nil] at hx
            rw [← ht,hx];exact h3
           ·cases hg
        refine hv (op:=ZhN (ZR 63)) (fun b c l w r h9=>?_) h1
        obtain ⟨p,r9,_,h8⟩:=ZO h9
        cases h8
        cases b<;>simp
       ·cases hp
  ·rintro ⟨h1,h2⟩
   have hr:ZcS 64 ⟨4,t,[],.nil⟩:=⟨.inr (.inl ⟨rfl,h1,h2,rfl,rfl⟩),trivial,trivial⟩
   have:=Zf8 (v:=⟨4,t,[],.nil⟩) hr h2
   have e:YS ⟨4,t,[],.nil⟩=t:=rfl
   rw [e] at this
   unfold ZoL
   rw [this];simp
theorem ZkL {k:Nat} {t:BL} {ns:List BL} {sub:JL}:whB k t ns sub=true↔Zb5 k t ns sub:=by
  unfold whB Zb5
  by_cases h1:k=1∨k=2∨k=3
  ·rw [if_pos h1]
   simp only [Bool.and_eq_true,decide_eq_true_eq,Ze4]
   constructor
   ·rintro ⟨a,b,c⟩;exact .inl ⟨h1,a,c,b⟩
   ·rintro (⟨_,a,b,c⟩ | ⟨a,_⟩ | ⟨a,_⟩ | ⟨a,_⟩ | ⟨a,_⟩)
    ·exact ⟨a,c,b⟩
    all_goals omega
  rw [if_neg h1]
  by_cases h4:k=4
  ·rw [if_pos h4]
   simp only [Bool.and_eq_true,decide_eq_true_eq,Ze4,ZhS]
   constructor
   ·rintro ⟨⟨a,a'⟩,b,c⟩;exact .inr (.inl ⟨h4,a,a',c,b⟩)
   ·rintro (⟨a,_⟩ | ⟨_,a,a',b,c⟩ | ⟨a,_⟩ | ⟨a,_⟩ | ⟨a,_⟩)
    ·exact absurd a h1
    ·exact ⟨⟨a,a'⟩,c,b⟩
    all_goals omega
  rw [if_neg h4]
  by_cases h5:k=5
  ·rw [if_pos h5]
   simp only [Bool.and_eq_true,decide_eq_true_eq,Ze4,Zez]
   constructor
   ·rintro ⟨a,b,c⟩;exact .inr (.inr (.inl ⟨h5,a,c,b⟩))
   ·rintro (⟨a,_⟩ | ⟨a,_⟩ | ⟨_,a,b,c⟩ | ⟨a,_⟩ | ⟨a,_⟩)
    ·exact absurd a h1
    ·omega
    ·exact ⟨a,c,b⟩
    all_goals omega
  rw [if_neg h5]
  by_cases h6:k=6
  ·rw [if_pos h6]
   simp only [Bool.and_eq_true,decide_eq_true_eq]
   constructor
   ·rintro ⟨a,b⟩;exact .inr (.inr (.inr (.inl ⟨h6,a,b⟩)))
   ·rintro (⟨a,_⟩ | ⟨a,_⟩ | ⟨a,_⟩ | ⟨_,a,b⟩ | ⟨a,_⟩)
    ·exact absurd a h1
    ·omega
    ·omega
    ·exact ⟨a,b⟩
    ·omega
  rw [if_neg h6]
  by_cases h7:k=7
  ·rw [if_pos h7]
   simp only [Bool.and_eq_true,decide_eq_true_eq,List.all_eq_true,Zez]
   constructor
   ·rintro ⟨a,b,c⟩;exact .inr (.inr (.inr (.inr ⟨h7,a,b,c⟩)))
   ·rintro (⟨a,_⟩ | ⟨a,_⟩ | ⟨a,_⟩ | ⟨a,_⟩ | ⟨_,a,b,c⟩)
    ·exact absurd a h1
    ·omega
    ·omega
    ·omega
    ·exact ⟨a,b,c⟩
  rw [if_neg h7]
  constructor
  ·intro h;cases h
  ·rintro (⟨a,_⟩ | ⟨a,_⟩ | ⟨a,_⟩ | ⟨a,_⟩ | ⟨a,_⟩)
   ·exact absurd a h1
   all_goals omega
theorem ZdQ {k:Nat} {t:BL} {ns:List BL} {sub:JL} (h:Zb5 k t ns sub) (h6:k≠6) (h7:k≠7):sub = .nil:=by
  rcases h with ⟨_,_,_,h⟩ | ⟨_,_,_,_,h⟩ | ⟨_,_,_,h⟩ | ⟨h,_⟩ | ⟨h,_⟩
  ·exact h
  ·exact h
  ·exact h
  ·exact absurd h h6
  ·exact absurd h h7
theorem Zbm:∀ (l:JL) (d n dp n' dp':Nat),d≤64→Xm whB d l n dp=(true,n',dp')→dp'≤64→Zau (64 - d) l∧n'=n+Zdi l∧dp≤dp'
  | .nil,d,n,dp,n',dp',hd,h,hp=>by
    cases h
    exact ⟨by cases 64 - d<;>exact trivial,rfl,Nat.le_refl _⟩
  | .cons k t ns sub rest,d,n,dp,n',dp',hd,h,hp=>by
    simp only [Xm] at h
    split at h
    ·cases h
    split at h
    ·cases h
    rename_i hb hw
    have hK:Zb5 k t ns sub:=ZkL.1 (by simpa using hw)
    split at h
    ·rename_i h67
     obtain ⟨a,b,c⟩:=Zbm rest d (n+1) dp n' dp' hd h hp
     have hnil:=ZdQ hK h67.1 h67.2
     subst hnil
     refine ⟨?_,by simp only [Zdi];omega,c⟩
     cases hd9:64 - d with
     | zero=>rw [hd9] at a;exact ⟨hK,h67.1,h67.2,a⟩
     | succ m=>rw [hd9] at a;exact ⟨hK,by cases m<;>exact trivial,a⟩
    split at h
    ·obtain ⟨a,b,c⟩:=Zbm rest d (n+1) _ n' dp' hd h hp
     omega
    rename_i h67 h64
    split at h
    ·rename_i hs
     have hsub:Xm whB (d+1) sub (n+1) (max dp (d+1))=(true,(Xm whB (d+1) sub (n+1) (max dp (d+1))).2.1,(Xm whB (d+1) sub (n+1) (max dp (d+1))).2.2):=by rw [← hs]
     obtain ⟨a,b,c⟩:=Zbm rest d _ _ n' dp' hd h hp
     obtain ⟨a2,b2,c2⟩:=Zbm sub (d+1) (n+1) (max dp (d+1)) _ _ (by omega) hsub (by omega)
     refine ⟨?_,by simp only [Zdi];omega,by omega⟩
     obtain ⟨m,hm⟩:∃ m,64 - d=m+1:=⟨64 - d - 1,by omega⟩
     rw [hm] at a ⊢
     rw [show 64 - (d+1)=m by omega] at a2
     exact ⟨hK,a2,a⟩
    ·rename_i hs
     rw [h] at hs
     exact absurd rfl hs
theorem ZcC:∀ (l:JL) (d n dp:Nat),d≤64→Zau (64 - d) l→n+Zdi l≤65536→dp≤64→∃ dp',Xm whB d l n dp=(true,n+Zdi l,dp')∧dp'≤64
  | .nil,d,n,dp,_,_,_,hp=>⟨dp,rfl,hp⟩
  | .cons k t ns sub rest,d,n,dp,hd,h,hn,hp=>by
    simp only [Zdi] at hn
    have hK:Zb5 k t ns sub:=by cases hd9:64 - d<;>rw [hd9] at h<;>exact h.1
    have hR:Zau (64 - d) rest:=by
      cases hd9:64 - d with
      | zero=>rw [hd9] at h;exact h.2.2.2
      | succ m=>rw [hd9] at h;exact h.2.2
    simp only [Xm]
    rw [if_neg (by omega),if_neg (by simp [ZkL.2 hK])]
    by_cases h67:k≠6∧k≠7
    ·have hnil:=ZdQ hK h67.1 h67.2
     subst hnil
     rw [if_pos h67]
     obtain ⟨dp',a,b⟩:=ZcC rest d (n+1) dp hd hR (by simp only [Zdi] at hn;omega) hp
     exact ⟨dp',by rw [a];simp only [Zdi];congr 2;omega,b⟩
    ·rw [if_neg h67]
     obtain ⟨m,hm⟩:∃ m,64 - d=m+1:=by
       cases hd9:64 - d with
       | zero=>rw [hd9] at h;exact absurd ⟨h.2.1,h.2.2.1⟩ h67
       | succ m=>exact ⟨m,rfl⟩
     rw [if_neg (by omega)]
     rw [hm] at h
     obtain ⟨dp',a,b⟩:=ZcC sub (d+1) (n+1) (max dp (d+1)) (by omega) (by rw [show 64 - (d+1)=m by omega];exact h.2.1) (by omega) (by omega)
     rw [a,if_pos rfl]
     obtain ⟨dp2,a2,b2⟩:=ZcC rest d (n+1+Zdi sub) dp' hd hR (by omega) b
     exact ⟨dp2,by rw [a2];simp only [Zdi];congr 2;omega,b2⟩
theorem ZcE:∀ {d:Nat} {l:JL},Zau d l→okN l
  | _,.nil,_=>trivial
  | 0,.cons k t ns sub rest,h=>by
    have:=ZdQ h.1 h.2.1 h.2.2.1
    subst this
    exact ⟨fun e=>absurd e h.2.2.1,trivial,ZcE h.2.2.2⟩
  | d+1,.cons k t ns sub rest,h=>by
    refine ⟨fun e=>?_,ZcE h.2.1,ZcE h.2.2⟩
    rcases h.1 with ⟨hk,_⟩ | ⟨hk,_⟩ | ⟨hk,_⟩ | ⟨hk,_⟩ | ⟨_,_,hl,_⟩
    ·omega
    ·omega
    ·omega
    ·omega
    ·exact hl
end Go.Js
namespace Go.Proofs.YtgiolidekcckiaaDoor
open Go Go.Fw Go.Js
theorem ZdR {v:JV}:Zbq v=true↔ZcS 64 v∧Zig v≤65536:=by
  have hcnt:Zdi (.cons v.k v.t v.ns v.sub .nil)=Zig v:=by simp [Zdi,Zig]
  unfold Zbq ZbC
  constructor
  ·intro h
   simp only [Bool.and_eq_true,decide_eq_true_eq] at h
   have e:Xm whB 0 (.cons v.k v.t v.ns v.sub .nil) 0 0=(true,(Xm whB 0 (.cons v.k v.t v.ns v.sub .nil) 0 0).2.1,(Xm whB 0 (.cons v.k v.t v.ns v.sub .nil) 0 0).2.2):=by rw [← h.1]
   obtain ⟨a,b,_⟩:=Zbm _ 0 0 0 _ _ (by omega) e h.2
   have hn:=(ZaH whB (.cons v.k v.t v.ns v.sub .nil) 0 0 0 (by omega)).2 h.1
   exact ⟨a,by omega⟩
  ·rintro ⟨a,b⟩
   obtain ⟨dp',e,h⟩:=ZcC (.cons v.k v.t v.ns v.sub .nil) 0 0 0 (by omega) a (by omega) (by omega)
   rw [e]
   simp [h]
theorem Zet:∀ (m:Nat) (v:JV),v.sub.hei≤m→Zmf (Z6 (m+1)) v
  | 0,v,hm=>Zes (f60:=Z6 0) fun i k t ns s r hd=>by have:=JL.drop_hei i v.sub hd;omega
  | m+1,v,hm=>Zes (f60:=Z6 (m+1)) fun i k t ns s r hd=>Zet m ⟨k,t,ns,s⟩ (by have:=JL.drop_hei i v.sub hd;show s.hei≤m;omega)
theorem Zj8 {h:Zb} {z:VT5} {v:JV} {S:Nat→Prop} {K:ByteArray→Int→HP} (hv:Zcz h S z v) (hS:∀ j,S j→j<sz h) (hfit:ZoN v) (hlen:(YS v).length<800000000) (ht:ZaZ h) (hh:3≤sz h)
    (hk:∀ s e h',Ext h h'→(Zbq v=false→s=Zg []∧e=6)→(Zbq v=true→65536<(YS v).length→s=Zg []∧e=5)→(Zbq v=true→(YS v).length≤65536→s=Zg (YS v)∧e=0)→K s e h'):Zaq z K h:=by
  unfold Zaq Zcu
  have hs:sz h=h.size:=rfl
  refine ZbA fun h1 c1 e1 z1=>Zc ?_
  have c1':obj h1 h.size=some (.cells (XQ z).toArray 26 (0,0)):=c1
  have s1:sz h1=h1.size:=rfl
  refine rI (Zm c1' rfl) (rS (Zm c1' rfl) (rL (s:=z.2.2.1) (Zm c1' rfl) (rL (s:=z.2.2.2.1) (Zm c1' rfl) ?_)))
  have hS1:∀ j,S j→j<sz h1:=fun j hj=>Nat.lt_of_lt_of_le (hS j hj) e1.size
  refine Zf2 (z:=z) (hv.ext hS e1) hS1 hfit (ht.ext e1) (by omega) fun h2 e2=>?_
  cases hr:Zbq v with
  | false =>
    refine Zt rfl (Zc (hk _ _ h2 (e1.trans e2) (fun _=>⟨rfl,rfl⟩) (fun h=>by rw [hr] at h;cases h) fun h=>by rw [hr] at h;cases h))
  | true =>
    have hrj:=(ZdR.1 hr).1
    have hokn:=ZcE hrj
    refine Zo rfl (ZbA fun h3 c3 e3 z3=>?_)
    have c1'':=Yn (Yn c1' e2) e3
    have s2:sz h2=h2.size:=rfl
    have s3:sz h3=h3.size:=rfl
    have b3:Bld h3 h2.size 45 []:=⟨.inr rfl,.pointer none,⟨none,0,0⟩,c3,.inl rfl,Buf.nil _ _⟩
    have e03:=(e1.trans e2).trans e3
    have hsz12:=e2.size
    refine rI (Zm c1'' rfl) (rS (Zm c1'' rfl) (rL (s:=z.2.2.1) (Zm c1'' rfl) (rL (s:=z.2.2.2.1) (Zm c1'' rfl) ?_)))
    refine ⟨v.sub.hei+1,Zet _ v (Nat.le_refl _) (z:=z) (S:=S) (hv.ext hS e03) (fun j hj=>by have:=hS j hj;omega) b3 hokn.1 hokn.2.1 (by simpa using hlen) fun h4 out b4 w4 l4 l4' u4=>?_⟩
    have e04:Ext h h4:=e03.updS u4.upd fun j hj=>by have:=(Zfc b3 hj).1;omega
    refine Zjm b4 (Zp (fun hbig=>Zc (hk _ _ h4 e04 (fun h=>by rw [hr] at h;cases h) (fun _ _=>⟨rfl,rfl⟩) fun _ hle=>?_)) fun hsm=>?_)
    ·rcases w4 with w4 | ⟨_,w4⟩
     ·rw [w4] at hbig;simp at hbig;omega
     ·simp at w4;omega
    ·have hw:out=YS v:=by
       rcases w4 with w4 | ⟨w4,_⟩
       ·simpa using w4
       ·omega
     refine ZeG b4 fun h5 u5=>Zc (hk _ _ h5 (e04.updS u5 fun j hj=>by omega) (fun h=>by rw [hr] at h;cases h) (fun _ hgt=>?_) fun _ _=>⟨by rw [hw],rfl⟩)
     rw [hw] at hsm
     omega
end Go.Proofs.YtgiolidekcckiaaDoor
namespace Go.Js
open Go
theorem Zhf (c:UInt8):(ZaY c).length≤6:=by
  unfold ZaY
  split
  ·simp
  split
  ·simp
  split
  ·simp
  split
  ·simp
  split
  ·simp
  split
  ·simp
  split<;>simp
theorem Zjx:∀ t:BL,(t.flatMap ZaY).length≤6*t.length
  | []=>by simp
  | c::t=>by
    have:=Zjx t
    have:=Zhf c
    simp only [List.flatMap_cons,List.length_append,List.length_cons]
    omega
theorem Zle (t:BL):(ZaN t).length≤6*t.length+2:=by
  have:=Zjx t
  unfold ZaN
  simp only [List.length_cons,List.length_append,List.length_nil]
  omega
end Go.Js
namespace Go.Js
open Go
def ZnB (c:UInt8):Bool:=decide (33≤c.toNat)&&decide (c.toNat≤126)
def Zbt (l:BL):Bool:=l.all ZnB&&(decide (1≤l.length)&&decide (l.length≤64))
end Go.Js
namespace Go.Proofs.YtgiolidekcckiaaDoor
open Go Go.Fw Go.Js
section
variable {h:Zb}
theorem Zc4 {n lo hi:Int} {K:Bool→HP} (hk:K (decide (lo≤n)&&decide (n≤hi)) h):Yl n lo hi K h:=by
  unfold Yl Zbi
  refine Zp (fun h1=>Zf ?_) fun h1=>?_
  ·rw [decide_eq_true (p:=lo≤n) (by omega),Bool.true_and] at hk;exact hk
  ·rw [decide_eq_false (p:=lo≤n) (by omega),Bool.false_and] at hk;exact hk
theorem ZmE {l:BL} {k:Nat} (hk:k≤l.length):Zd4 (Zg l) k (l.drop k):=by
  have:Zd4 (Zg l) 0 l:=⟨rfl,by rw [XD];omega⟩
  have:=this.dropK hk
  rwa [Nat.zero_add] at this
theorem ZbM {l:BL} (hl:l.length<9223372036854775807) {K:Bool→HP} (hk:K (Zbt l) h):Ym (Zg l) K h:=by
  unfold Ym Zbj
  have hs:(Zg l).size=l.length:=rfl
  refine Z2 (fun p h'=>h'=h∧∃ i:Nat,p.1=i∧i≤l.length∧(l.take i).all ZnB=true) (fun p _=>l.length - p.1.toNat) ⟨rfl,0,rfl,Nat.zero_le _,rfl⟩ ?_
  rintro ⟨i_,u⟩ h2 ⟨rfl,i,hi,hil,ha⟩
  dsimp only at hi ⊢
  subst hi
  refine Zp (fun hlt=>Zc ?_) fun hge=>?_
  ·have hia:i<l.length:=by omega
   have hr:Zd4 (Zg l) i (l[i]::l.drop (i+1)):=by
     have:=ZmE (l:=l) (k:=i) (by omega)
     rwa [List.drop_eq_getElem_cons hia] at this
   refine ⟨l[i],by omega,by rw [Int.toNat_natCast];exact hr.head,Zc4 ?_⟩
   have hb:=l[i].toNat_lt
   rw [Y5 (by omega) (by omega)]
   have e:(decide ((33:Int)≤(l[i].toNat:Int))&&decide ((l[i].toNat:Int)≤126))=ZnB l[i]:=by
     unfold ZnB
     congr 1<;>(rw [decide_eq_decide];omega)
   rw [e]
   cases hn:ZnB l[i] with
   | false =>
     refine Zt rfl ?_
     have:Zbt l=false:=by
       unfold Zbt
       have:l.all ZnB=false:=by
         cases hq:l.all ZnB with
         | false=>rfl
         | true=>rw [List.all_eq_true] at hq;have:=hq _ (List.getElem_mem hia);rw [hn] at this;cases this
       rw [this];rfl
     rw [this] at hk;exact hk
   | true =>
     refine Zo rfl ?_
     rw [Y5 (by omega) (by omega)]
     refine ⟨⟨rfl,i+1,rfl,by omega,?_⟩,by omega⟩
     rw [List.take_add_one,List.getElem?_eq_getElem hia,List.all_append,ha]
     simp [hn]
  ·rw [List.take_of_length_le (by omega)] at ha
   refine Zc4 (Zf ?_)
   unfold Zbt at hk
   rw [ha,Bool.true_and] at hk
   rw [show (decide ((1:Int)≤((Zg l).size:Int))&&decide (((Zg l).size:Int)≤64))=(decide (1≤l.length)&&decide (l.length≤64)) by
     rw [hs];congr 1<;>(rw [decide_eq_decide];omega)]
   exact hk
theorem ZiC {s:ByteArray} {K:VT5→HP} (hk:∀ h',Ext h h'→K (5,s,⟨none,0,0⟩,⟨none,0,0⟩,()) h'):X0 s K h:=by
  unfold X0 ZbS
  refine ZbA fun h1 c1 e1 z1=>?_
  have c1':obj h1 h.size=some (.cells zV.toArray 26 (0,0)):=c1
  have hs:sz h=h.size:=rfl
  exact ZeD (x:=⟨none,0,0⟩) (y:=⟨none,0,0⟩) c1' rfl fun h3 u3 z3=>hk h3 (e1.updS u3 fun j hj=>by omega)
abbrev Zne:BL:=[100,101,102,97,117,108,116]
theorem rB9 {h:Zb} {b o:Nat} {n:Bool} {K:Bool→Prop} (hc:YY o (obj h b)=some (.bool n)) (hk:K n):ldB h b o K:=by
  unfold ldB
  exact ⟨n,by rw [Xq];exact hc,hk⟩
theorem Zkg {l:BL} (hl:l.length<9223372036854775807) {nm:Sl} (hr:Row h nm 1 ([Zne].map sV)) {K:Bool→HP} (hk:∀ h',Ext h h'→K (Zbt l) h'):Yz (Zg l,nm,()) K h:=by
  unfold Yz XH
  refine ZbA fun h1 c1 e1 z1=>rS (Zm c1 rfl) (ZbM hl ?_)
  have hnl:=ZeX hr
  cases hn:Zbt l with
  | false=>rw [hn] at hk;exact Zo rfl (hk h1 e1)
  | true =>
    rw [hn] at hk
    refine Zt rfl (rL (s:=nm) (Zm c1 rfl) ?_)
    unfold Zs ZD Zu ZF
    refine Zc (Z2 (fun p h'=>h'=h1∧∃ i:Nat,p.1=i∧i≤1) (fun p _=>1 - p.1.toNat) ⟨rfl,0,rfl,Nat.zero_le _⟩ ?_)
    rintro ⟨i_,u⟩ h2 ⟨rfl,i,hi,hil⟩
    dsimp only at hi ⊢
    subst hi
    have hnl1:nm.len=1:=hnl
    refine Zp (fun hlt=>Zc ?_) fun hge=>Zc (Zf (Zf (hk h2 e1)))
    obtain rfl:i=0:=by omega
    refine ZiG (hr.ext e1) (i:=0) (t:=Zne) rfl rfl ?_
    unfold YE Xk
    refine ZbM (by decide) (Zf (Zo rfl ?_))
    rw [Y5 (by omega) (by omega)]
    exact ⟨⟨rfl,1,rfl,Nat.le_refl _⟩,by decide⟩
theorem ZlO {l:BL} (hl:l.length<9223372036854775807) {K:Int→HP} (hk:∀ h',Ext h h'→K (if Zbt l=true then 0 else 10) h') :
    Zao (Zg l,Zg Zne,false,1,0,ByteArray.mk #[],0,0,0,false,0,false,()) K h:=by
  unfold Zao Zcr
  have hs:sz h=h.size:=rfl
  refine ZbA fun h1 c1 e1 z1=>Zc (rS (Zm c1 rfl) (ZbA fun h2 c2 e2 z2=>?_))
  have hs1:sz h1=h1.size:=rfl
  have c12:=Yn c1 e2
  refine Zy (fun p h'=>h'=h2∧p.1=⟨some ⟨h1.size,0,none⟩,1,1⟩) ?_ (rI (Zm c12 rfl) (Zo rfl (rI (Zm c12 rfl) (Zo rfl ⟨rfl,rfl⟩))))
  rintro ⟨nm,u⟩ h3 ⟨rfl,hnm⟩
  dsimp only at hnm ⊢
  subst hnm
  refine Zy (fun p h'=>Ext h3 h'∧∃ b,p.1=some ⟨b,0,none⟩∧obj h' b=some (.cells [.bool false].toArray 4 (0,0))) ?_ (rI (Zm c12 rfl) (Zo rfl (rI (Zm c12 rfl) (ZbA fun h4 c4 e4 z4=>Zhs c4 (by decide) rfl fun h5 c5 u5 z5=>⟨e4.updS u5 fun j hj=>by subst hj;exact Nat.le_refl _,_,rfl,c5⟩))))
  rintro ⟨wm,u⟩ h4 ⟨e34,wb,hwm,cw⟩
  dsimp only at hwm ⊢
  subst hwm
  have c14:=Yn c12 e34
  refine Zy (fun p h'=>Ext h4 h'∧∃ b,p.1=some ⟨b,0,none⟩∧obj h' b=some (.cells [.bool false].toArray 4 (0,0))) ?_ (rI (Zm c14 rfl) (Zo rfl (rI (Zm c14 rfl) (ZbA fun h5 c5 e5 z5=>Zhs c5 (by decide) rfl fun h6 c6 u6 z6=>⟨e5.updS u6 fun j hj=>by subst hj;exact Nat.le_refl _,_,rfl,c6⟩))))
  rintro ⟨pc,u⟩ h5 ⟨e45,pb,hpc,cp⟩
  dsimp only at hpc ⊢
  subst hpc
  have c15:=Yn c14 e45
  have cw5:=Yn cw e45
  have c25:=Yn (Yn c2 e34) e45
  refine ZbA fun h6 c6 e6 z6=>Zhs c6 (by decide) rfl fun h7 c7 u7 z7=>?_
  have hs5:sz h5=h5.size:=rfl
  have hs6:sz h6=h6.size:=rfl
  have e57:Ext h5 h7:=e6.updS u7 fun j hj=>by omega
  have c17:=Yn c15 e57
  refine Zy (fun _ h'=>Ext h5 h'∧obj h' h5.size=some (.cells [.int .i64 0].toArray 3 (0,0))) ?_ (rI (Zm c17 rfl) (Zt rfl (Zhs c7 (by decide) rfl fun h8 c8 u8 z8=>⟨e57.updS u8 fun j hj=>by omega,c8⟩)))
  rintro ⟨⟩ h8 ⟨e58,c8⟩
  have c18:=Yn c15 e58
  refine rS (Zm c18 rfl) (ZbA fun h9 c9 e9 z9=>?_)
  have e59:=e58.trans e9
  have c19:=Yn c18 e9
  have c29:=Yn c25 e59
  have cw9:=Yn cw5 e59
  have cp9:=Yn cp e59
  have c89:=Yn c8 e9
  have e09:Ext h h9:=(((e1.trans e2).trans e34).trans e45).trans e59
  have key:=fun h' e=>hk h' e
  unfold XY ZaR
  refine ZbA fun h10 c10 e10 z10=>Zc (rS (Zm c10 rfl) (rL (s:=⟨some ⟨h1.size,0,none⟩,1,1⟩) (Zm c10 rfl) ?_))
  have e010:=e09.trans e10
  have rowN:Row h10 ⟨some ⟨h1.size,0,none⟩,1,1⟩ 1 ([Zne].map sV):=by
    have c:=Yn c29 e10
    exact ⟨rfl,Nat.le_refl _,by show (1:Nat)<_;decide,.inr ⟨h1.size,0,rfl,Zbw c fun i v hv=>by simpa using hv⟩⟩
  refine Zkg hl rowN fun h11 e11=>?_
  have e011:=e010.trans e11
  cases hn:Zbt l with
  | false =>
    refine Zt rfl (Zc (Zc ?_))
    have:=key h11 e011
    rw [hn] at this;exact this
  | true =>
    have key':∀ h',Ext h h'→K 0 h':=fun h' e=>by have:=key h' e;rw [hn] at this;exact this
    refine Zo rfl (Z2 (fun p h'=>∃ i:Nat,p.1=i∧i≤7∧Ext h11 h') (fun p _=>7 - p.1.toNat) ⟨0,rfl,Nat.zero_le _,Ext.refl _⟩ ?_)
    rintro ⟨i_,u⟩ h12 ⟨i,hi,hi7,e12⟩
    dsimp only at hi ⊢
    subst hi
    have e912:Ext h9 h12:=(e10.trans e11).trans e12
    have q1:=Yn c19 e912
    have qw:=Yn cw9 e912
    have qp:=Yn cp9 e912
    have q8:=Yn c89 e912
    have q9:=Yn c9 e912
    refine Zp (fun hlt=>?_) fun hge=>Zc (Zc (key' h12 (e011.trans e12)))
    have hilt:i<7:=by have:(i:Int)<((7:Nat):Int):=hlt;omega
    refine Zg5 (n:=i) rfl hilt ?_
    have go:((∃ i_1:Nat,IntKind.wrap .i64 ((i:Int)+1)=i_1∧i_1≤7∧Ext h11 h12)∧7 - (IntKind.wrap .i64 ((i:Int)+1)).toNat<7 - (i:Int).toNat):=by
      rw [Y5 (by omega) (by omega)]
      exact ⟨⟨i+1,rfl,by omega,e12⟩,by omega⟩
    match i,hilt with
    | 0,_ =>
      refine rV (Zm q9 rfl) (.inl ⟨(_,_,()),rfl,?_⟩)
      exact ZG (rI (Zm q1 rfl) (ZG (rI (Zm q8 rfl) (Zc4 (Zf (Zo rfl go))))))
    | 1,_ =>
      refine rV (Zm q9 rfl) (.inr (.inl ⟨(_,()),rfl,?_⟩))
      exact ZG (rI (Zm q1 rfl) (Zt rfl (ZG (rI (Zm q1 rfl) (Zf (Zo rfl go))))))
    | 2,_ =>
      refine rV (Zm q9 rfl) (.inr (.inr (.inl ⟨(_,()),rfl,?_⟩)))
      exact ZG (rI (Zm q1 rfl) (Zo rfl (ZG (rS (Zm q1 rfl) (Zf (Zo (by show (!Za9 (ByteArray.mk #[]) (ByteArray.mk #[]))=false;rw [ZfV];rfl) go))))))
    | 3,_ =>
      refine rV (Zm q9 rfl) (.inr (.inr (.inr (.inl ⟨(_,()),rfl,?_⟩))))
      exact ZG (rB9 (Zm q1 rfl) (Zt rfl (Zo rfl go)))
    | 4,_ =>
      refine rV (Zm q9 rfl) (.inr (.inr (.inr (.inr (.inl ⟨(_,_,_,()),rfl,?_⟩)))))
      exact ZG (rB9 (Zm qw rfl) (ZG (rI (Zm q1 rfl) (Zo rfl (Zt rfl (Zf (Zt rfl (ZG (rB9 (Zm qp rfl) (ZG (rI (Zm q1 rfl) (Zo rfl (Zt rfl (Zf (Zf (Zo rfl go))))))))))))))))
    | 5,_ =>
      refine rV (Zm q9 rfl) (.inr (.inr (.inr (.inr (.inr (.inl ⟨(_,()),rfl,?_⟩))))))
      exact ZG (rB9 (Zm q1 rfl) (Zt rfl (Zo rfl go)))
    | 6,_ =>
      refine rV (Zm q9 rfl) (.inr (.inr (.inr (.inr (.inr (.inr (.inl ⟨(_,()),rfl,?_⟩)))))))
      exact ZG (rB9 (Zm q1 rfl) (ZG (rI (Zm q1 rfl) (Zo rfl (Zt rfl (Zf (Zt rfl (ZG (rB9 (Zm q1 rfl) (Zo rfl (ZG (rB9 (Zm q1 rfl) (Zf (Zo rfl go))))))))))))))
theorem ZiF {l:BL} (h:Zbt l=true):Utf l∧l.length≤64:=by
  unfold Zbt at h
  simp only [Bool.and_eq_true,decide_eq_true_eq,List.all_eq_true] at h
  obtain ⟨h1,h3,h2⟩:=h
  refine ⟨?_,h2⟩
  clear h2 h3
  induction l with
  | nil=>exact .nil
  | cons c l ih =>
    have hc:=h1 c (by simp)
    unfold ZnB at hc
    simp only [Bool.and_eq_true,decide_eq_true_eq] at hc
    have:Xc [c]=true:=by
      have:=ZhT c (by omega)
      simp [Xc,this,okC]
    exact Utf.cons (x:=[c]) this (ih fun d hd=>h1 d (List.mem_cons_of_mem _ hd))
theorem Zhp {s:ByteArray} {K:Bool→HP} (hs:s.size≤1048576) (ht:ZaZ h) (hh:3≤sz h) (hk:∀ h',Ext h h'→K true h'):Y9 s K h:=by
  unfold Y9 Xb
  have hs0:s=Zg s.data.toList:=rfl
  have hsl:s.data.toList.length=s.size:=by simp
  generalize s.data.toList=l at hs0 hsl
  subst hs0
  refine ZiC fun h1 e1=>ZbA fun h2 c2 e2 z2=>?_
  have hs1:sz h1=h1.size:=rfl
  have c2':obj h2 h1.size=some (.cells zV.toArray 26 (0,0)):=c2
  refine Zmy c2' (by simp) (Zca (5,Zg l,⟨none,0,0⟩,⟨none,0,0⟩,())) fun h3 c3 u3 z3=>?_
  have c3':obj h3 h1.size=some (.cells (XQ (5,Zg l,⟨none,0,0⟩,⟨none,0,0⟩,())).toArray 26 (0,0)):=c3
  have e13:Ext h1 h3:=e2.updS u3 fun j hj=>by omega
  have e03:=e1.trans e13
  have ld:∀ {x:Zb} {K:Int→ByteArray→Sl→Sl→Prop},Ext h3 x→K 5 (Zg l) ⟨none,0,0⟩ ⟨none,0,0⟩→ldI x h1.size 0 .u8 fun a=>ldS x h1.size (0+1) fun b=>ldL x h1.size (0+2) fun c=>ldL x h1.size (0+3) fun d=>K a b c d:=fun e hK=>by
    have c:=Yn c3' e
    exact rI (Zm c rfl) (rS (Zm c rfl) (rL (s:=⟨none,0,0⟩) (Zm c rfl) (rL (s:=⟨none,0,0⟩) (Zm c rfl) hK)))
  have vr:∀ {x:Zb},Zcz x (fun _=>False) (5,Zg l,⟨none,0,0⟩,⟨none,0,0⟩,()) ⟨5,l,[],.nil⟩:=Zcz.plain _ _ 5 l
  have hfit:ZoN ⟨5,l,[],.nil⟩:=⟨by dsimp only;omega,fun m hm=>(by cases hm),trivial⟩
  have noS:∀ {x:Zb} (j:Nat),False→j<sz x:=fun j hj=>hj.elim
  have hx:∀ {x:Zb},Ext h x→3≤sz x:=fun e=>by have:sz h≤sz _:=e.size;omega
  have pq:YS ⟨5,l,[],.nil⟩=ZaN l:=rfl
  have pl:(YS ⟨5,l,[],.nil⟩).length≤6*l.length+2:=Zle l
  refine ld (Ext.refl _) (Zj8 (z:=(5,Zg l,⟨none,0,0⟩,⟨none,0,0⟩,())) vr noS hfit (by omega) (ht.ext e03) (hx e03) fun t e h4 e4 p1 p2 p3=>Zc ?_)
  have e04:=e03.trans e4
  have rgt:Zbt l=true→Zbq ⟨5,l,[],.nil⟩=true∧(YS ⟨5,l,[],.nil⟩).length≤65536:=fun h=>by
    obtain ⟨a,b⟩:=ZiF h
    exact ⟨ZdR.2 ⟨⟨.inr (.inr (.inl ⟨rfl,a,rfl,rfl⟩)),trivial,trivial⟩,by show 1+0≤65536;omega⟩,by omega⟩
  refine ZcI (fun hne=>ZbM (by omega) ?_) fun he=>?_
  ·cases hn:Zbt l with
   | true =>
     exfalso
     obtain ⟨a,b⟩:=rgt hn
     exact hne (p3 a b).2
   | false =>
     refine Zt rfl (Xd (fun _=>hk h4 e04) fun h5=>?_)
     refine ld e4 (Zf2 (z:=(5,Zg l,⟨none,0,0⟩,⟨none,0,0⟩,())) vr noS hfit (ht.ext e04) (hx e04) fun h6 e6=>Zf ?_)
     have hr:Zbq ⟨5,l,[],.nil⟩=false:=by
       cases hr:Zbq ⟨5,l,[],.nil⟩ with
       | false=>rfl
       | true =>
         exfalso
         by_cases hl:(YS ⟨5,l,[],.nil⟩).length≤65536
         ·exact hne (p3 hr hl).2
         ·exact h5 (p2 hr (by omega)).2
     rw [hr]
     exact hk h6 (e04.trans e6)
  ·have hr:Zbq ⟨5,l,[],.nil⟩=true∧(YS ⟨5,l,[],.nil⟩).length≤65536:=by
     cases hr:Zbq ⟨5,l,[],.nil⟩ with
     | false=>have:=(p1 hr).2;omega
     | true =>
       by_cases hl:(YS ⟨5,l,[],.nil⟩).length≤65536
       ·exact ⟨rfl,hl⟩
       ·have:=(p2 hr (by omega)).2;omega
   obtain ⟨rfl,rfl⟩:=p3 hr.1 hr.2
   have hb:Zbr (Zg (YS ⟨5,l,[],.nil⟩)).data.toList = .ok ⟨5,l,[],.nil⟩:=Zf8 (ZdR.1 hr.1).1 hr.2
   refine Zf7 (ht.ext e04) (hx e04) fun y f n h5 e5 g=>?_
   rw [hb] at g
   obtain ⟨vr5,rfl,rfl⟩:=g
   have e05:=e04.trans e5
   refine ZbA fun h6 c6 e6 z6=>?_
   have hs5:sz h5=h5.size:=rfl
   have c6':obj h6 h5.size=some (.cells zV.toArray 26 (0,0)):=c6
   refine Zmy c6' (by simp) (Zca y) fun h7 c7 u7 z7=>Zc (Zc ?_)
   have c7':obj h7 h5.size=some (.cells (XQ y).toArray 26 (0,0)):=c7
   have e57:Ext h5 h7:=e6.updS u7 fun j hj=>by omega
   have e07:=e05.trans e57
   refine ZlO (by omega) fun h8 e8=>Zc (Zt rfl ?_)
   have c8:=Yn c7' e8
   have e08:=e07.trans e8
   refine rI (Zm c8 rfl) ?_
   rw [vr5.1]
   refine Zt rfl (rS (Zm c8 rfl) ?_)
   rw [vr5.2.1]
   refine Zt (ZfV _) (ZbM (by omega) ?_)
   cases hn:Zbt l with
   | true=>exact Zt rfl (Zt rfl (hk h8 e08))
   | false=>exact Zt rfl (Zo rfl (Zf (hk h8 e08)))
end
end Go.Proofs.YtgiolidekcckiaaDoor
namespace Go.Proofs.YtgiolidekcckiaaDoor
open Go Go.Fw Go.Lib
abbrev Zg2:List (String × DataW Unit):=[("unicode/utf8.acceptRanges", Rows.laid_unicode_utf8_acceptRanges),("unicode/utf8.first", Rows.laid_unicode_utf8_first)]
theorem Zl1 {w:World} {n:String} {g:Nat} {t e:TypeId} {m:Nat} {k:IntKind} {zs:List Int} (hg:Tryd.prog.globalNamed n=some g) (hty:(Tryd.prog.globals[g]?).map (·.type)=some t)
    (ht:Tryd.prog.underlying t=some (.array m e)) (he:Tryd.prog.underlying e=some (.int k)) (hce:Tryd.prog.cellsOf e=1) (hct:Tryd.prog.cellsOf t=m) (h:VarReads Tryd.prog w n (tabData k zs)):TabIs Tryd.prog w n k zs:=by
  obtain ⟨g',t',cs,fuel,p,hg',ht',hvar,hd⟩:=h
  obtain rfl:=Option.some.inj (hg.symm.trans hg')
  obtain rfl:=Option.some.inj (hty.symm.trans ht')
  unfold TabIs
  rw [hvar,← cells_of_tab ht he hce hct hd]
theorem Zm3:Rows.laid_unicode_utf8_first=firstData:=by kernel_rfl
theorem Zme:(Rows.laid_unicode_utf8_acceptRanges:DataW Unit)=acceptData:=by kernel_rfl
theorem Zgm:Tryd.prog.globalNamed "unicode/utf8.first" = some 0:=by kernel_rfl
theorem ZiY:Tryd.prog.globalNamed "unicode/utf8.acceptRanges" = some 1:=by kernel_rfl
theorem Zkq:(Tryd.prog.globals[0]?).map (·.type)=some 87:=by kernel_rfl
theorem ZiX:(Tryd.prog.globals[1]?).map (·.type)=some 90:=by kernel_rfl
theorem Zrn:Tryd.prog.cellsOf 5=1:=by kernel_rfl
theorem ZoD:Tryd.prog.cellsOf 87=256:=by kernel_rfl
theorem Zp6:Tryd.prog.cellsOf 89=2:=by kernel_rfl
theorem ZkT {w:World} (h3:VarReads Tryd.prog w "unicode/utf8.first" firstData) (h4:VarReads Tryd.prog w "unicode/utf8.acceptRanges" acceptData):Lib.Utf8Tabs 0 1 w:=by
  refine ⟨fun c hc=>?_,fun i hi=>?_⟩
  ·have hT:=Zl1 Zgm Zkq Tryd.underlying87 Tryd.underlying5 Zrn ZoD h3
   rw [hT.cell Zgm c (by simp [firstTab];omega)]
   simp [firstTab,List.getD,hc]
  ·obtain ⟨g,t,cs,fuel,p,hg,hty,hvar,hd⟩:=h4
   obtain rfl:=Option.some.inj (ZiY.symm.trans hg)
   obtain rfl:=Option.some.inj (ZiX.symm.trans hty)
   obtain ⟨fuel',d,q,hdi,he⟩:=array_elem Tryd.underlying90 hd i hi
   simp only [List.getElem?_map,List.getElem?_range hi,Option.map_some,Option.some.injEq] at hdi
   subst hdi
   rw [Zp6] at he
   have hcs:=ints_of_struct Tryd.underlying89 (fun j f hj=>by
     match j,hj with
     | 0,hj=>simp at hj;subst hj;exact ⟨Tryd.underlying5,rfl,Zrn⟩
     | 1,hj=>simp at hj;subst hj;exact ⟨Tryd.underlying5,rfl,Zrn⟩
     | j+2,hj=>simp at hj) (by rw [Zp6];rfl) he
   have e0:=congrArg (·[0]?) hcs
   have e1:=congrArg (·[1]?) hcs
   simp only [List.getElem?_take,List.getElem?_drop] at e0 e1
   constructor
   ·rw [World.var?_cell hg hvar (2*i),← Array.getElem?_toList]
    simpa [Nat.mul_comm] using e0
   ·rw [World.var?_cell hg hvar (2*i+1),← Array.getElem?_toList]
    simpa [Nat.mul_comm] using e1
theorem ZjU:(begin Tryd.prog (fun _ _=>0) default).world.heap.size=8:=by decide +kernel
theorem Zh3:Tryd.prog.globals.size=3:=by kernel_rfl
theorem Zkj:(Zg2.all fun x=>x.2.handleName?.isNone)=true:=by kernel_rfl
set_option maxRecDepth 10000 in
theorem ZnY {W:World} (hL:laidMetH Tryd.prog Zg2 W) (hS:W.ShapedOpen Tryd.prog):ZaZ W.heap∧3≤sz W.heap:=by
  have hl:∀ w:World,w.heap=W.heap→laidMet Tryd.prog Zg2 w:=fun w hw=>by
    have:=hL.of_heap hw.symm
    rw [MakeChecks.laidMetH_plain _ _ _ Zkj] at this
    exact this
  refine ⟨⟨fun w hw=>?_⟩,?_⟩
  ·have r1:=laidMet.reads (hl w hw) (n:= "unicode/utf8.first") (d:=Rows.laid_unicode_utf8_first) (by simp [Zg2])
   have r2:=laidMet.reads (hl w hw) (n:= "unicode/utf8.acceptRanges") (d:=Rows.laid_unicode_utf8_acceptRanges) (by simp [Zg2])
   rw [Zm3] at r1
   rw [Zme] at r2
   exact ZkT r1 r2
  ·obtain ⟨o,o0,h1,_⟩:=hS.2 7 (by rw [Zh3];decide) (by rw [ZjU];decide)
   have:=(Array.getElem?_eq_some_iff.1 h1).1
   show 3≤W.heap.size
   omega
section
variable {H:Type} {enc:TypeId × Value→H}
theorem ZgR {a:Assume} {C:Checked} {os:Os} {f:FuncId} {fn:Func} {s:OpenSpec} {k:(H:Type)→List (DataW H)→Bool} (hk:s.cond=some k) {F:Stop.Interp} {conds:List PathCond} {apart fresh handsOn again:Bool} {X:World→Array Value→Prop}
    (hX:∀ (w w':World) (args:Array Value),w.heap=w'.heap→X w args→X w' args)
    (own:ownKnob C.prog.godebug=none) (started:os.Started) (noInit:C.prog.inits.idxOf? f=none) (hfn:C.prog.funcs[f]?=some fn)
    (witness:∃ (w:World) (tape:Tape) (i:Input),w.os=os∧(w.forCall tape i).Shaped C.prog∧i.vars=[]∧Input.okWide C.prog (w.forCall tape i) .any w.heap.size f i ∧
      ((s.pre enc C.prog fn conds apart (w.forCall tape i).memory i.args∧X (w.forCall tape i).memory i.args)∧sizedMet enc C.prog fn s apart (w.forCall tape i).memory i.args)∧a.holds C.prog (lone (Frame.enter C.prog f i.args .normal) [] (w.forCall tape i)))
    (contract:∀ (W:World) (base:Nat) (args:Array Value) (ds gs:List (DataW H)) (before:List MemPlace),
      (∀ (j:Nat) t v,fn.params[j]?=some t→args[j]?=some v→Value.okWide C.prog W .any base t v) →
      DataW.Whole enc C.prog fn.params.toList s.vars apart W args.toList ds gs before→k H (ds++gs)=true→X W args→W.ShapedOpen C.prog →
      Calls C.prog f args W fun e W'=>∃ v,e = .returned v∧(s.at F).post enc C.prog fn apart fresh handsOn again W args v W') :
    ReturnsInHanded a C os f .any (fun w args=>(s.pre enc C.prog fn conds apart w args∧X w args)∧sizedMet enc C.prog fn s apart w args) ((s.at F).post enc C.prog fn apart fresh handsOn again):=by
  refine returnsInHanded_of_calls own started noInit witness ?_
  intro w tape i _ hsh _ hok hpre _
  obtain ⟨_,_,_,fn',hfn',_,_,_,_,hval⟩:=hok
  have e:fn'=fn:=Option.some.inj (hfn'.symm.trans hfn)
  subst e
  obtain ⟨⟨hp,hx⟩,_⟩:=hpre
  obtain ⟨ds,gs,before,hw,_,hkk⟩:=(OpenSpec.pre_some hk conds apart _ _).1 hp
  have hw':=DataW.Whole.of_heap (w':=w.forCall tape i) (by rfl) hw
  refine (contract (w.forCall tape i) w.heap.size i.args ds gs before hval hw' hkk (hX _ _ _ (by rfl) hx) hsh).mono fun e W' ⟨v,he,hp⟩=>?_
  subst he
  exact ChangeSpec.post_blind hp
theorem ZgA {C:Checked} {os:Os} {f:FuncId} {fn:Func} {s:OpenSpec} {k:(H:Type)→List (DataW H)→Bool} (hk:s.cond=some k) {conds:List PathCond} {apart:Bool} {X:World→Array Value→Prop} (modest:Bool) (w0:World) (args:Array Value) (fuel:Nat) (hos:w0.os=os)
    (hsh:(w0.forCall (fun _ _=>0) ⟨#[],args,[]⟩).Shaped C.prog)
    (hok:Input.okWideB C.prog (w0.forCall (fun _ _=>0) ⟨#[],args,[]⟩) f ⟨#[],args,[]⟩=true)
    {x:List (DataW H) × List (DataW H) × List MemPlace} (hx:DataW.whole enc C.prog (w0.forCall (fun _ _=>0) ⟨#[],args,[]⟩).memory fn.params.toList s.vars apart args.toList fuel=some x)
    (hconds:conds.all (PathCond.test C.prog ⟨fn.params.toList,x.1,s.bare.plain.varTypes C.prog,x.2.1⟩)=true) (hkk:k H (x.1++x.2.1)=true)
    (hsz:s.bare.sizedB enc C.prog fn apart (w0.forCall (fun _ _=>0) ⟨#[],args,[]⟩).memory args fuel=true)
    (hX:X (w0.forCall (fun _ _=>0) ⟨#[],args,[]⟩).memory args) :
    ∃ (w:World) (tape:Tape) (i:Input),w.os=os∧(w.forCall tape i).Shaped C.prog∧i.vars=[]∧Input.okWide C.prog (w.forCall tape i) .any w.heap.size f i ∧
      ((s.pre enc C.prog fn conds apart (w.forCall tape i).memory i.args∧X (w.forCall tape i).memory i.args)∧sizedMet enc C.prog fn s apart (w.forCall tape i).memory i.args)∧({ modest:=modest }:Assume).holds C.prog (lone (Frame.enter C.prog f i.args .normal) [] (w.forCall tape i)) :=
  ⟨w0,fun _ _=>0,⟨#[],args,[]⟩,hos,hsh,(Input.okWide_of_okWideB (base:=0) hok).1,(Input.okWide_of_okWideB hok).2,
    ⟨⟨(OpenSpec.pre_some hk conds apart _ _).2 ⟨x.1,x.2.1,x.2.2,DataW.Whole_of_whole hx,hconds,hkk⟩,hX⟩,sizedMet_of_sizedB hsz⟩,by
    simp only [Assume.holds]
    exact ⟨by simp,by simp,fun _=>Modest.zero,by simp,by simp⟩⟩
theorem ZkZ {P:Program} {w:World} {base:Nat} {spare:Nat→Bool} {held:Bool} {t:TypeId} {fuel:Nat} {s:ByteArray} {d:DataW H} {p:List MemPlace} (ht:P.underlying t=some .string)
    (h:DataW.trod enc P w base spare held fuel t [.string s]=some (d,p)):d = .lit (.string s.data.toList):=by
  obtain ⟨s',hs,hx,_⟩:=DataW.trod_string ht h
  simp at hs
  subst hs
  exact (Prod.mk.inj hx).1
end
end Go.Proofs.YtgiolidekcckiaaDoor
