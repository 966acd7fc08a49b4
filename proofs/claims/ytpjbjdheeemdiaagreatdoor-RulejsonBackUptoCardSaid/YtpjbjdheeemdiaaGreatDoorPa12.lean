/- A walk through a value: json.Right, json.Depth; how many values. -/
import Derived.KernelRfl
import Derived.Test.YtpjbjdheeemdiaaGreatDoorRows
import Derived.Lib.LaidU8
import Derived.Stop.Joined
import Derived.MakeChecks
import Derived.ProofKit
import Derived.OpenShut
import Derived.Lay
import Derived.ChangeArms
import Derived.JoinedCond
import Derived.LaidLaws
import Derived.Test.YtpjbjdheeemdiaaGreatDoorPa11
set_option linter.unusedVariables false
set_option linter.unusedSimpArgs false
namespace Go.Proofs.YtpjbjdheeemdiaaGreatDoor
open Go Go.Fw Go.Js
def ZN8 (right:Value) (rt:Rt):Prop:=(right = .func (.func 94) #[] #[]/\rt=whB)\/(right = .func (.func 119) #[] #[]/\rt=fun _ _ _ _=>true)
abbrev ZPN (n dp:Nat):List Value:=[.int .i64 n,.int .i64 dp]
def ZqX (h:Zc) (C n dp:Nat):Prop:=obj h C=some (.cells (ZPN n dp).toArray 157 (0,0))
theorem ZfS (rt:Rt):∀ (l:JL) (d n dp:Nat),n<=65536->(ZcZ rt d l n dp).2.1<=65537/\((ZcZ rt d l n dp).1=true->(ZcZ rt d l n dp).2.1<=65536)
  | .nil,d,n,dp,h=>⟨by show n<=65537;omega,fun _=>h⟩
  | .cons k t ns sub rest,d,n,dp,h=>by
    simp only [ZcZ]
    split
    ·exact ⟨by show n+1<=65537;omega,fun h=>by cases h⟩
    split
    ·exact ⟨by show n+1<=65537;omega,fun h=>by cases h⟩
    split
    ·exact ZfS rt rest d (n+1) dp (by omega)
    split
    ·exact ZfS rt rest d (n+1) _ (by omega)
    split
    ·rename_i a
     have:=ZfS rt sub (d+1) (n+1) (max dp (d+1)) (by omega)
     exact ZfS rt rest d _ _ (this.2 a)
    ·have:=ZfS rt sub (d+1) (n+1) (max dp (d+1)) (by omega)
     exact this
theorem ZfI (rt:Rt):∀ (l:JL) (d n dp:Nat),d<=64->dp<=65->(ZcZ rt d l n dp).2.2<=65
  | .nil,d,n,dp,_,h=>h
  | .cons k t ns sub rest,d,n,dp,hd,h=>by
    simp only [ZcZ]
    split
    ·exact h
    split
    ·exact h
    split
    ·exact ZfI rt rest d (n+1) dp hd h
    split
    ·exact ZfI rt rest d (n+1) _ hd (by omega)
    split
    ·exact ZfI rt rest d _ _ hd (ZfI rt sub (d+1) (n+1) _ (by omega) (by omega))
    ·exact ZfI rt sub (d+1) (n+1) _ (by omega) (by omega)
theorem rV {h:Zc} {b o:Nat} {n:Value} {K:Value->Prop} (a:ZbK o (obj h b)=some n) (c:K n):ldV h b o K:=by rw [ZGT a];exact c
def ZFs (f53:Zoc) (right:Value) (rt:Rt) (v:JV):Prop:=∀ {h:Zc} {C n dp d:Nat} {z:VT5} {S:Nat->Prop} {K:Bool->HP},ZaS h S z v->(∀ j,S j->j<sz h/\j≠C)->ZFE v->ZaT h->9<=C->ZqX h C n dp->n<=65536->d<=64->dp<=65 ->
    (∀ h',ZqX h' C (Zhy rt d v n dp).2.1 (Zhy rt d v n dp).2.2->Upd (· = C) h h'->K (Zhy rt d v n dp).1 h')->f53 (At C) z d right K h
theorem ZPF {a b:Nat}:ZCm (a:Int) (b:Int)=((max a b:Nat):Int):=by
  unfold ZCm
  split<;>omega
theorem Zq8 {f53:Zoc} {right:Value} {rt:Rt} (ad:ZN8 right rt) {v:JV} (ae:∀ i k t ns s r,v.sub.drop i = .cons k t ns s r->ZFs f53 right rt ⟨k,t,ns,s⟩):ZFs (Zc3 f53) right rt v:=by
  intro h C n dp d z S K hv hS M ht hC hc hn hd aW y
  unfold Zc3 ZeO
  have aX:=ZaK hc
  have hs:sz h=h.size:=rfl
  refine YZ fun U c1 e1 z1=>YZ fun V c3 e3 z3=>YZ fun h5 c5 e5 z5=>?_
  have ah:Ye right=true:=by rcases ad with ⟨e,_⟩ | ⟨e,_⟩<;>rw [e]<;>simp [Ye]
  refine ⟨ah,YZ fun h7 c7 e7 z7=>?_⟩
  have aj:=(e3.trans e5).trans e7
  have ak:=e1.trans aj
  have s1:sz U=U.size:=rfl
  have s3:sz V=V.size:=rfl
  have s5:sz h5=h5.size:=rfl
  have b1:obj h7 h.size=some (.cells [.pointer (At C)].toArray 155 (0,0)):=Zn c1 aj
  have b2:obj h7 U.size=some (.cells (Xq z).toArray 33 (0,0)):=Zn c3 (e5.trans e7)
  have b3:obj h7 V.size=some (.cells [.int .i64 d].toArray 3 (0,0)):=Zn c5 e7
  have b4:obj h7 h5.size=some (.cells [right].toArray 45 (0,0)):=c7
  have al:ZqX h7 C n dp:=Zn hc ak
  refine rP (Zb b1 rfl) (Zo (rI (Zb al rfl) (Zo (Zk2 al (by simp) ZgP fun W c8 u8 z8=>?_))))
  have X:ZqX W C (n+1) dp:=by
    unfold ZqX
    rw [c8,YA (by omega) (by omega)];rfl
  have d1:¬ h.size=C:=by omega
  have d2:¬ U.size=C:=by omega
  have d3:¬ V.size=C:=by omega
  have d4:¬ h5.size=C:=by omega
  have g1:=ZG b1 u8 d1
  have g2:=ZG b2 u8 d2
  have g3:=ZG b3 u8 d3
  have g4:=ZG b4 u8 d4
  have w:Upd (· = C) h W:=UN ak u8
  have f:Zhy rt d v n dp=ZcZ rt d (.cons v.k v.t v.ns v.sub .nil) n dp:=rfl
  simp only [ZcZ] at f
  refine rP (Zb g1 rfl) (Zo (rI (Zb X rfl) (Zq (fun an=>?_) fun az=>rV (Zb g4 rfl) (rI (Zb g2 rfl) (rS (Zb g2 rfl) (rL (s:=z.2.2.1) (Zb g2 rfl) (rL (s:=z.2.2.2.1) (Zb g2 rfl) ?_)))))))
  ·rw [if_pos (by omega)] at f
   rw [f] at y
   exact y W X w
  rw [if_neg (by omega)] at f
  have v8:ZaS W S z v:=hv.keep (fun j c hl=>Zt w hl (hS j c).2) fun j c=>c
  have aA:∀ j,S j->j<sz W:=fun j c=>Aqq (hS j c).1 (Zkd w)
  have t8:ZaT W:=ht.upd w fun j c=>by subst c;exact hC
  have rest:∀ a,Ext W a->(fun t24 a =>
     Zy (!t24) (
     K false a) (
     Zgq (σ:=Unit) (fun s x =>
     ldP x h.size 0 fun t30 =>
     ldP x h.size 0 fun t31 =>
     Ze t31 fun aB aC =>
     ldI x aB (aC+1) .i64 fun t34 =>
     ldI x V.size 0 .i64 fun t35 =>
     Ze t30 fun aD aE =>
     st x aD (aE+1) (.int .i64 (ZCm t34 (IntKind.wrap .i64 (t35+1)))) fun g =>
     ldI g V.size 0 .i64 fun t39 =>
     Zy (decide (t39>=64)) (
     K true g) (
     ldL g U.size (0+2) fun t40 =>
     Zz f53 t40 (some ⟨h.size,0,none⟩,some ⟨V.size,0,none⟩,some ⟨h5.size,0,none⟩,()) (fun t41 Y =>
     Yq (!t41) fun t43 =>
     K t43 Y) g)) (fun aq =>
     ldI a U.size 0 .u8 fun t27 =>
     Zy (t27 !=6) (
     ldI a U.size 0 .u8 fun t28 =>
     Zy (t28 !=7) (
     K true a) (
     aq (()) a)) (
     aq (()) a)))) (rt v.k v.t v.ns v.sub) a:=by
    intro a b
    have o:ZqX a C (n+1) dp:=Zn X b
    have D:=w.trans (b.upd _)
    have g1:=Zn g1 b
    have g2:=Zn g2 b
    have g3:=Zn g3 b
    have g4:=Zn g4 b
    cases hr:rt v.k v.t v.ns v.sub with
    | false =>
      rw [if_pos hr] at f
      rw [f] at y
      exact Zm rfl (y a o D)
    | true =>
      rw [if_neg (by simp [hr])] at f
      refine Zl rfl ?_
      refine ZO (fun _ h'=>h'=a/\(v.k=6\/v.k=7)) ?_ ?_
      ·rintro ⟨⟩ x ⟨rfl,aR⟩
       rw [if_neg (by omega)] at f
       refine rP (Zb g1 rfl) (rP (Zb g1 rfl) (Zo (rI (Zb o rfl) (rI (Zb g3 rfl) (Zo (Zk2 o (by simp) ZgP fun g aF E bk=>?_))))))
       have N:ZqX g C (n+1) (max dp (d+1)):=by
         unfold ZqX
         rw [aF,YA (by omega) (by omega),show (d:Int)+1=((d+1:Nat):Int) from rfl,ZPF];rfl
       have g1:=ZG g1 E d1
       have g2:=ZG g2 E d2
       have g3:=ZG g3 E d3
       have g4:=ZG g4 E d4
       have O:=D.trans E
       refine rI (Zb g3 rfl) (Zq (fun aG=>?_) fun aG=>?_)
       ·rw [if_pos (by omega)] at f
        rw [f] at y
        exact y g N O
       ·rw [if_neg (by omega)] at f
        refine rL (s:=z.2.2.1) (Zb g2 rfl) ?_
        unfold Zz Yk ZS Yo
        obtain ⟨a1,a2,a3,a4,cx,a5,a6,a7⟩:=id hv
        have bo:z.2.2.1.len=v.sub.len:=by have:=a5.len;have:=a7.len;omega
        have an:=a5.big
        have aU:=a5.cap
        refine Za ?_
        refine Zv (fun p h'=>∃ i A B:Nat,p.1=i/\i<=v.sub.len/\Upd (· = C) g h'/\ZqX h' C A B/\A<=65536/\B<=65/\ZcZ rt (d+1) v.sub (n+1) (max dp (d+1))=ZcZ rt (d+1) (v.sub.drop i) A B) (fun p _=>(v.sub.len - p.1).toNat)
          ⟨0,n+1,max dp (d+1),rfl,Ayk _,Upd.refl _ _,N,by omega,by omega,rfl⟩ ?_
        rintro ⟨i0,u⟩ F ⟨i,A,B,hi,hle,G,P,ar,au,l⟩
        dsimp only at hi ⊢
        subst hi
        have H:=O.trans G
        refine Zq (fun bp=>Za ?_) fun bq=>Za (Zh (Zh ?_))
        ·have aH:i<v.sub.len:=by omega
         obtain ⟨k,t,ns,s,r,I⟩:=JL.drop_cons aH
         have J:∀ j,S j->j<sz h->obj F j=obj h j:=fun j c hl=>Zt H hl (hS j c).2
         have ra:Row F z.2.2.1 4 cx:=Ym a5 a6 J
         have la:XC F S v.sub cx:=a7.keep J fun j c=>c
         refine ZgR ra la I rfl fun zi aJ=>?_
         unfold ZbN ZdR
         refine YZ fun av aK m bw=>?_
         have q:obj av F.size=some (.cells (Xq zi).toArray 33 (0,0)):=aK
         have g1:=Zn (ZG g1 G d1) m
         have g3:=Zn (ZG g3 G d3) m
         have g4:=Zn (ZG g4 G d4) m
         refine Zo (rP (Zb g1 rfl) (rI (Zb q rfl) (rS (Zb q rfl) (rL (s:=zi.2.2.1) (Zb q rfl) (rL (s:=zi.2.2.2.1) (Zb q rfl) (Zo (rI (Zb g3 rfl) (Zo (rV (Zb g4 rfl) ?_)))))))))
         rw [YA (by omega) (by omega),show (d:Int)+1=((d+1:Nat):Int) from rfl]
         have L:=H.trans (m.upd _)
         have aL:=Zxp rt (d+1) k t ns s r A B
         have Q:=ZfS rt (.cons k t ns s .nil) (d+1) A B ar
         have R:=ZfI rt (.cons k t ns s .nil) (d+1) A B (by omega) au
         rw [I,aL] at l
         refine ae i k t ns s r I (h:=av) (S:=S) (aJ.keep (fun j c hl=>Zu m hl) fun j c=>c) (fun j c=>⟨Aqq (hS j c).1 (Zkd L),(hS j c).2⟩) (ZuZ i M.2.2 I) (ht.upd L fun j c=>by subst c;exact hC) hC (Zn P m) ar (by omega) au fun Y T aw=>Zh ?_
         have aM:Zhy rt (d+1) ⟨k,t,ns,s⟩ A B=ZcZ rt (d+1) (.cons k t ns s .nil) A B:=rfl
         rw [<- aM] at Q R
         cases hw:(Zhy rt (d+1) ⟨k,t,ns,s⟩ A B).1 with
         | true =>
           rw [if_pos hw] at l
           refine Zl rfl ?_
           rw [YA (by omega) (by omega)]
           exact ⟨⟨i+1,_,_,rfl,by omega,G.trans ((m.upd _).trans aw),T,Q.2 hw,R,by rw [l,JL.drop_succ i _ I]⟩,by omega⟩
         | false =>
           rw [if_neg (by simp [hw])] at l
           refine Zm rfl (Za (Zh (Zh ?_)))
           rw [l,if_neg (by simp [hw])] at f
           rw [f,hw] at y
           rw [show decide ((i:Int)>=0)=true by simp]
           exact y Y T (L.trans aw)
        ·rw [JL.drop_nil (by omega)] at l
         have q9:ZcZ rt (d+1) v.sub (n+1) (max dp (d+1))=(true,A,B):=l
         rw [q9,if_pos rfl] at f
         have Z:Zhy rt d v n dp=(true,A,B):=f
         rw [Z] at y
         exact y F P H
      ·refine rI (Zb g2 rfl) ?_
       rw [hv.1]
       refine Zar (fun n6=>rI (Zb g2 rfl) ?_) fun e6=>⟨rfl,.inl (by omega)⟩
       rw [hv.1]
       refine Zar (fun n7=>?_) fun e7=>⟨rfl,.inr (by omega)⟩
       rw [if_pos (by omega)] at f
       have Z:Zhy rt d v n dp=(true,n+1,dp):=f
       rw [Z] at y
       exact y a o D
  rcases ad with ⟨aa,ab⟩ | ⟨aa,ab⟩
  ·refine .inl ⟨aa,?_⟩
   subst ab
   refine Zvv (z:=z) v8 aA M t8 (by have:=Zkd w;omega) fun a b=>?_
   exact rest a b
  ·refine .inr (.inl ⟨aa,?_⟩)
   subst ab
   unfold ZeZ Zg6
   refine YZ fun a bz b bA=>?_
   exact rest a b
theorem Zq9 {right:Value} {rt:Rt} (a:ZN8 right rt):∀ (m:Nat) (v:JV),v.sub.hei<=m->ZFs (Zae (m+1)) right rt v
  | 0,v,hm=>Zq8 (f53:=Zae 0) a fun i k t ns s r hd=>by
    have:=JL.drop_hei i v.sub hd
    omega
  | m+1,v,hm=>Zq8 (f53:=Zae (m+1)) a fun i k t ns s r hd=>Zq9 a m ⟨k,t,ns,s⟩ (by have:=JL.drop_hei i v.sub hd;show s.hei<=m;omega)
def ZgC (v:JV):Bool:=(Zhy whB 0 v 0 0).1&&decide ((Zhy whB 0 v 0 0).2.2<=64)
theorem ZvQ {h:Zc} {z:VT5} {v:JV} {S:Nat->Prop} {K:Bool->HP} (l:ZaS h S z v) (e:∀ j,S j->j<sz h) (c:ZFE v) (ht:ZaT h) (t:9<=sz h) (m:∀ h',Ext h h'->K (ZgC v) h'):Ze7 z K h:=by
  unfold Ze7 ZiI
  have u:sz h=h.size:=rfl
  refine YZ fun i o p w=>YZ fun q c3 k z3=>?_
  have s1:sz i=i.size:=rfl
  have a:obj q h.size=some (.cells (Xq z).toArray 33 (0,0)):=Zn o k
  have b:=p.trans k
  refine rI (Zb a rfl) (rS (Zb a rfl) (rL (s:=z.2.2.1) (Zb a rfl) (rL (s:=z.2.2.2.1) (Zb a rfl) ?_)))
  refine ⟨v.sub.hei+1,Zq9 (rt:=whB) (.inl ⟨rfl,rfl⟩) _ v (Aqo _) (n:=0) (dp:=0) (d:=0) (z:=z) (l.ext e b) (fun j f=>⟨Aqq (e j f) b.size,by have:=e j f;omega⟩) c (ht.ext b) (by omega) c3 (by omega) (by omega) (by omega) fun r g u8=>?_⟩
  have key:=m r (b.updS u8 fun j f=>by omega)
  unfold ZgC at key
  cases hw:(Zhy whB 0 v 0 0).1 with
  | false=>rw [hw] at key;exact Zl rfl key
  | true =>
    rw [hw,Aqa] at key
    refine Zm rfl (rI (Zb g rfl) (Zh ?_))
    rw [show decide ((((Zhy whB 0 v 0 0).2.2:Nat):Int)<=64)=decide ((Zhy whB 0 v 0 0).2.2<=64) by rw [decide_eq_decide];omega]
    exact key
end Go.Proofs.YtpjbjdheeemdiaaGreatDoor
namespace Go.Js
open Go
def okN:JL->Prop
  | .nil=>True
  | .cons k _ ns sub rest=>(k=7->ns.length=sub.len)/\okN sub/\okN rest
def WR (out p a:BL):Prop:=a=out++p\/(65536<a.length/\65536<(out++p).length)
theorem WR.trans {a p b q c:BL} (h:WR a p b) (h':WR b q c) (g:b.length<=c.length):WR a (p++q) c:=by
  rcases h with rfl | ⟨i,d⟩
  ·rcases h' with rfl | ⟨e,f⟩
   ·left;rw [Ayz]
   ·right;exact ⟨e,by rw [<- Ayz];exact f⟩
  ·right
   refine ⟨by omega,?_⟩
   simp only [Awe] at d ⊢
   omega
theorem WR.refl (a:BL):WR a [] a:= .inl (by simp)
theorem Zut:∀ (n:Nat) {l:JL} {k:Nat} {t:BL} {ns:List BL} {s r:JL},okN l->l.drop n = .cons k t ns s r->(k=7->ns.length=s.len)/\okN s
  | 0,l,k,t,ns,s,r,h,e=>by
    rw [show l=_ from e] at h
    exact ⟨h.1,h.2.1⟩
  | n+1,.nil,_,_,_,_,_,_,e=>by cases e
  | n+1,.cons _ _ _ _ a,_,_,_,_,_,h,e=>Zut n h.2.2 e
end Go.Js
namespace Go.Proofs.YtpjbjdheeemdiaaGreatDoor
open Go Go.Fw Go.Js
abbrev ctl:BL:=[8,12,10,13,9]
theorem ZFi:∀ c:UInt8,c≠34->c≠92->0<=Lib.indexByte ctl c->((⟨#[98,102,110,114,116]⟩:ByteArray)[(Lib.indexByte ctl c).toNat]?).map (fun m=>([92,m]:BL))=some (Zgu c):=ZFK (by decide +kernel)
theorem ZFh:∀ c:UInt8,c≠34->c≠92->Lib.indexByte ctl c<0->c.toNat<32->Zgu c=[92,117,48,48,Zy9 (c.toNat / 16),Zy9 (c.toNat % 16)]:=ZFK (by decide +kernel)
theorem ZBA:∀ c:UInt8,c≠34->c≠92->Lib.indexByte ctl c<0->¬ c.toNat<32->Zgu c=[c]:=ZFK (by decide +kernel)
abbrev ZNM:ByteArray:=⟨#[48,49,50,51,52,53,54,55,56,57,97,98,99,100,101,102]⟩
theorem ZCx:∀ n:Fin 16,ZNM[n.val]?=some (Zy9 n.val):=by decide +kernel
theorem ZCk:∀ b:Fin 256,ZvH .u8 ((b.val:Nat):Int) 4=((b.val / 16:Nat):Int):=by decide +kernel
theorem ZCj:∀ b:Fin 256,Zvm .u8 ((b.val:Nat):Int) 15=((b.val % 16:Nat):Int):=by decide +kernel
theorem Buf.app2 {h:Zc} {base:Nat} {x:Sl} {l new:BL} {n:Nat} {cells:List Value} {K:Sl->Zc->Prop} (m:Buf h base x l) (g:base<=sz h) (D:n=new.length) (E:cells=new.map bv) (M:l.length+new.length<=1000000000)
    (q:∀ u h',Buf h' base u (l++new)->Upd (fun k=>x.blk=some k) h h'->(∀ j,u.blk=some j->x.blk=some j\/sz h<=j)->sz h<=sz h'->K u h'):Fw.app 5 1 1 [.int .u8 0] x n cells h K:=by
  subst D E
  have hlen:=m.len
  have B:=m.cap
  refine ⟨fun e=>?_,fun F=>⟨by omega,by omega,?_⟩⟩
  ·rcases m.at_ with ⟨hp,C⟩ | ⟨b,c,hp,r,d,f,w,y⟩
   ·left
    have z:new=[]:=Aqr (by omega)
    subst z
    refine ⟨rfl,?_⟩
    have:l=[]:=Aqr (by omega)
    subst this
    refine q _ _ ⟨?_,e,m.big,.inl ⟨hp,C⟩⟩ (Upd.refl _ _) (fun j p=> .inl p) (Aqo _)
    simpa using hlen
   ·right
    refine ⟨b,0,hp,Zje d (by simp [f];omega),ZrH new,?_⟩
    have A:=ZrJ (o:=0+x.len*1) (vs:=new.map bv) d
    refine q _ _ ⟨by simp [hlen],e,m.big,.inr ⟨b,_,hp,r,A,by rw [ZgF];exact f,?_,by simp [y]⟩⟩ ((Upd.puts h b _ _).mono fun k _ q=>by subst q;simp [Sl.blk,hp]) (fun j p=> .inl p) (by rw [Zio];exact Aqo _)
    have:=ZiB (new.map bv) (0+x.len*1) c (by simp [f];omega)
    simp only [Ayx] at this
    rw [Ayy,w]
    simpa using this.symm
  ·have s:rdS x 1 h fun old=>old=l.map bv:=by
     rcases m.at_ with ⟨hp,C⟩ | ⟨b,c,hp,r,d,f,w,_⟩
     ·have:l=[]:=Aqr (by omega)
      subst this
      exact .inl ⟨by simpa using hlen,rfl⟩
     ·refine .inr ⟨b,0,l.map bv,hp,by simp [hlen],ZdE d fun i v t=>?_,rfl⟩
      rw [w,Aqf] at t
      split at t
      ·simpa using t
      ·cases t
   have next:∀ cap,x.len+new.length<=cap->cap<9223372036854775808->K ⟨some ⟨h.size,0,none⟩,x.len+new.length,cap⟩ (h.push (.cells (l.map bv++new.map bv++Zbl [.int .u8 0] (cap - (x.len+new.length))).toArray 5)):=fun cap G H=>by
     refine q _ _ ⟨by simp [hlen],G,H,.inr ⟨h.size,_,rfl,g,Zi6,?_,?_,fun I=>by have J:=congrArg List.length I;rw [Awe,Ays] at J;omega⟩⟩ ((Ext.push h _).upd _) (fun j p=> .inr (by simp [Sl.blk] at p;subst p;exact Aqo _)) (by rw [ZxR];omega)
     ·simp only [Awe,Ayx,ZgK,List.length_singleton];omega
     ·rw [Ayy,Awc (by simp [hlen]),Awd (by simp [hlen])]
   rcases s with ⟨a,b⟩ | ⟨b,o,vs,L,a2,a3,a4⟩
   ·refine .inl ⟨a,?_⟩
    have:l=[]:=by cases l with | nil=>rfl | cons c l=>cases b
    subst this
    exact next
   ·exact .inr ⟨b,o,vs,L,a2,a3,by rw [a4];exact next⟩
def ZwG (h:Zc) (B j:Nat):Prop:=j=B\/∃ (c:Value) (x:Sl) (T:TypeId),obj h B=some (.cells [c,slV x].toArray T (0,0))/\x.blk=some j
structure BU (B:Nat) (h h':Zc):Prop where
  upd:Upd (ZwG h B) h h'
  foot:∀ j,ZwG h' B j->ZwG h B j\/sz h<=j
theorem BU.refl (B:Nat) (h:Zc):BU B h h:=⟨Upd.refl _ _,fun j a=> .inl a⟩
theorem BU.trans {B:Nat} {a b c:Zc} (u:BU B a b) (e:BU B b c):BU B a c:=by
  have l:=Zkd u.upd
  refine ⟨⟨Aqp u.upd.size e.upd.size,fun k f g=>(e.upd.old k (Aqq f u.upd.size) fun d=>?_).trans (u.upd.old k f g)⟩,fun j i=>?_⟩
  ·rcases u.foot k d with h | h
   ·exact g h
   ·have:sz a=a.size:=rfl;omega
  ·rcases e.foot j i with d | d
   ·exact u.foot j d
   ·right;omega
theorem ZEp {x y:Sl} (h:slV x=slV y):x=y:=by
  rw [ZGw] at h;exact h
theorem ZjV {h:Zc} {B:Nat} {c:Value} {x:Sl} {T:TypeId} (b:obj h B=some (.cells [c,slV x].toArray T (0,0))) {j:Nat}:ZwG h B j↔j=B\/x.blk=some j:=by
  constructor
  ·rintro (a | ⟨f,g,l,d,i⟩)
   ·exact .inl a
   ·rw [b] at d
    have e:[c,slV x]=[f,slV g]:=by
      have:=Option.some.inj d
      injection this with k _ _
      simpa using k
    simp only [Axy,and_true] at e
    rw [ZEp e.2]
    exact .inr i
  ·rintro (a | a)
   ·exact .inl a
   ·exact .inr ⟨c,x,T,b,a⟩
theorem Ext.bu {B:Nat} {h h':Zc} (e:Ext h h') (b:B<sz h):BU B h h':=by
  refine ⟨e.upd _,fun j d=>?_⟩
  rcases d with f | ⟨c,x,T,a,g⟩
  ·exact .inl (.inl f)
  ·rw [Zu e b] at a
   exact .inl (.inr ⟨c,x,T,a,g⟩)
theorem BU.keep {B:Nat} {h h':Zc} (u:BU B h h') {b:Nat} {x:Obj} (a:obj h b=some x) (c:¬ ZwG h B b):obj h' b=some x/\¬ ZwG h' B b:=by
  refine ⟨ZG a u.upd c,fun e=>?_⟩
  rcases u.foot b e with d | d
  ·exact c d
  ·have:=ZaK a;omega
theorem Zpl {h:Zc} {B:Nat} {T:TypeId} {out:BL} (i:Bld h B T out) {K:HP} (a:∀ h' x,ZHy T->BU B h h'->obj h' B=some (.cells [.pointer (At B),slV x].toArray T (0,0))->Buf h' (B+1) x out->B<sz h'->K h'):Yf (At B) K h:=by
  have d:=i.lt
  obtain ⟨f,c,x,b,l,g⟩:=i
  refine ⟨B,c,slV x,T,rfl,b,f,?_⟩
  rcases l with rfl | rfl
  ·left
   refine ⟨rfl,?_⟩
   have hp:obj (h.put B 0 (.pointer (some ⟨B,0,none⟩))) B=some (.cells [.pointer (At B),slV x].toArray T (0,0)):=by rw [ZmO,if_pos rfl,b,Ziz];rfl
   have e:Buf (h.put B 0 (.pointer (some ⟨B,0,none⟩))) (B+1) x out:=g.congr fun k a n=>by rw [ZmO,if_neg (by have:=(g.lt a).1;omega)]
   refine a _ x f ⟨(Upd.put h B 0 _).mono fun k _ a=>by subst a;exact .inl rfl,fun j m=> .inl ?_⟩ hp e (by rw [ZB5];exact d)
   exact (ZjV b).2 ((ZjV hp).1 m)
  ·exact .inr ⟨rfl,a h x f (BU.refl _ _) b g d⟩
theorem Zvi {h:Zc} {B:Nat} {T:TypeId} {out new:BL} {x:Sl} {n:Nat} {cells:List Value} (u:ZHy T) (b:obj h B=some (.cells [.pointer (At B),slV x].toArray T (0,0))) (t:Buf h (B+1) x out) (f:n=new.length) (v:cells=new.map bv) (w:out.length+new.length<=1000000000) {K:HP}
    (g:∀ h',Bld h' B T (out++new)->BU B h h'->K h'):Fw.app 5 1 1 [.int .u8 0] x n cells h fun t5 i=>Ze (At B) fun y z=>st i y (z+1) (.slice t5.ptr t5.len t5.cap) K:=by
  have A:=ZaK b
  refine t.app2 (by omega) f v w fun l i c m f6 G=>?_
  have o:obj i B=some (.cells [.pointer (At B),slV x].toArray T (0,0)):=ZG b m fun e=>by have:=(t.lt e).1;omega
  refine Zo (Zk2 o (by simp) ZrG fun a c9 p z9=>?_)
  have d:obj a B=some (.cells [.pointer (At B),slV l].toArray T (0,0)):=c9
  have q:Buf a (B+1) l (out++new):=c.congr fun k g C=>Zt p C (by have:=(c.lt g).1;omega)
  refine g a ⟨u,_,l,d,.inr rfl,q⟩ ⟨⟨by have:=m.size;have:=p.size;omega,fun j r f=>?_⟩,fun j r=>?_⟩
  ·have D:¬ x.blk=some j:=fun e=>f ((ZjV b).2 (.inr e))
   have E:¬ j=B:=fun e=>f ((ZjV b).2 (.inl e))
   have F:sz h=h.size:=rfl
   exact (Zt p (by omega) E).trans (Zt m r D)
  ·rcases (ZjV d).1 r with a | a
   ·exact .inl (.inl a)
   ·rcases f6 j a with s | s
    ·exact .inl ((ZjV b).2 (.inr s))
    ·exact .inr s
theorem ZeB {h:Zc} {B:Nat} {T:TypeId} {out:BL} (f:Bld h B T out) {c:UInt8} {n:Int} (g:n=c.toNat) (u:out.length<900000000) {K:Value->HP} (d:∀ h',Bld h' B T (out++[c])->BU B h h'->K .nilIface h'):ZB (At B) n K h:=by
  subst g
  unfold ZB XT
  refine Zpl f fun v x i j e l m=>Zo (rL (Zb e rfl) ?_)
  refine ZNy [c] 1 rfl rfl (by decide) fun w o p a _=>p.rd ?_
  have b:=l.congr (h':=o) fun k d q=>Zu a q
  exact Zvi i (Zn e a) b (new:=[c]) rfl rfl (by simp;omega) fun r s t=>d r s (j.trans ((Ext.bu a m).trans t))
theorem Zxi {h:Zc} {B:Nat} {T:TypeId} {out:BL} (b:Bld h B T out) {s:ByteArray} (k:out.length+s.size<900000000) {K:Int->Value->HP} (c:∀ h',Bld h' B T (out++s.data.toList)->BU B h h'->K s.size .nilIface h'):ZA (At B) s K h:=by
  unfold ZA Xz
  refine Za (Zpl b fun l x d e a f m=>Zo (rL (Zb a rfl) ?_))
  exact Zvi d a f (new:=s.data.toList) (by simp) rfl (by simp;omega) fun g i j=>Za (c g i (e.trans j))
section
variable {h:Zc} {B:Nat} {T:TypeId} {out:BL}
theorem ZuF (a:Bld h B T out) {K:Int->HP} (d:K out.length h):Xh (At B) K h:=by
  unfold Xh ZcN
  obtain ⟨f,c,x,b,g,e⟩:=a
  refine Za (Zo (rL (s:=x) (Zb b rfl) (Za ?_)))
  rw [e.len];exact d
theorem ZBB (c:UInt8):(Zgu c).length<=6:=by
  have:∀ b:Fin 256,(Zgu ⟨⟨b⟩⟩).length<=6:=by decide +kernel
  rcases c with ⟨⟨b⟩⟩
  exact this b
theorem Zoe (E:Bld h B T out) {t:BL} (hs:out.length+(ZgE t).length<800000000) {K:HP} (R:∀ h',Bld h' B T (out++ZgE t)->BU B h h'->K h'):Za6 (At B) (Zj t) K h:=by
  unfold Za6 Zeo
  have hq:(ZgE t).length=(t.flatMap Zgu).length+2:=by simp [ZgE]
  have j:∀ c:UInt8,1<=(Zgu c).length:=fun c=>by
    have:∀ b:Fin 256,1<=(Zgu ⟨⟨b⟩⟩).length:=by decide +kernel
    rcases c with ⟨⟨b⟩⟩
    exact this b
  have tl:∀ t:BL,t.length<=(t.flatMap Zgu).length:=fun t=>by
    induction t with
    | nil=>simp
    | cons c t ih=>have:=j c;simp only [Azd,Awe,Aqj];omega
  have S:=tl t
  refine Zo (ZeB (c:=34) E rfl (by omega) fun h1 U V=>?_)
  refine Zv (fun p h'=>∃ i:Nat,p.1=i/\i<=t.length/\Bld h' B T (out++34::(t.take i).flatMap Zgu)/\BU B h h') (fun p _=>(t.length - p.1).toNat) ⟨0,rfl,Ayk _,by simpa using U,V⟩ ?_
  rintro ⟨i0,u⟩ L ⟨i,M,hle,v,N⟩
  dsimp only at M ⊢
  subst M
  have pl:((t.take i).flatMap Zgu).length<=(t.flatMap Zgu).length:=by
    conv=>rhs;rw [<- Azi i t]
    rw [Aze,Awe];omega
  refine Zq (fun F=>Za ?_) fun G=>?_
  ·have w:i<t.length:=by rw [ZdJ] at F;omega
   have W:(Zj t)[(i:Int).toNat]?=some t[i]:=by
     rw [Aqu,getElem?_pos (Zj t) i (by rw [ZdJ];exact w)]
     simp [Zj]
     rfl
   refine ⟨t[i],by omega,W,Za ?_⟩
   have a:(t.take (i+1)).flatMap Zgu=(t.take i).flatMap Zgu++Zgu t[i]:=by
     rw [Ayu,Ayb w,Aze];simp
   have x:((t.take (i+1)).flatMap Zgu).length<=(t.flatMap Zgu).length:=by
     conv=>rhs;rw [<- Azi (i+1) t]
     rw [Aze,Awe];omega
   rw [a,Awe] at x
   generalize hc:t[i]=c at a x
   have X:=ZBB c
   have done:∀ {h':Zc},Bld h' B T ((out++34::(t.take i).flatMap Zgu)++Zgu c)->BU B L h'->(∃ k:Nat,IntKind.wrap .i64 ((i:Int)+1)=k/\k<=t.length/\Bld h' B T (out++34::(t.take k).flatMap Zgu)/\BU B h h')/\(t.length - IntKind.wrap .i64 ((i:Int)+1)).toNat<(t.length - (i:Int)).toNat:=fun {h'} Y Z=>by
     rw [YA (by omega) (by omega)]
     refine ⟨⟨i+1,rfl,by omega,?_,N.trans Z⟩,by omega⟩
     rw [a]
     simpa using Y
   have f:(out++34::(t.take i).flatMap Zgu).length+10<900000000:=by rw [Awe,Aqj];omega
   refine Zm6 ?_
   rw [toU]
   show Zi (Lib.indexByte ctl c) _
   refine Za ?_
   refine ZO (fun p h'=>h'=L/\(p.1=true↔c=34\/c=92)) ?_ ?_
   ·rintro ⟨b,u⟩ O ⟨rfl,l⟩
    dsimp only at l ⊢
    cases y:b with
    | true =>
      have he:Zgu c=[92,c]:=by unfold Zgu;rw [if_pos (l.1 y)]
      refine Zm rfl (Zo (ZeB (c:=92) v rfl (by omega) fun H n o=>Zo (ZeB (c:=c) n rfl (by simp at f ⊢;omega) fun P z A=>done ?_ (o.trans A))))
      rw [he]
      simpa using z
    | false =>
      have Q:¬ (c=34\/c=92):=fun e=>by have:=l.2 e;rw [y] at this;cases this
      have g:c≠34:=fun e=>Q (.inl e)
      have q:c≠92:=fun e=>Q (.inr e)
      refine Zl rfl (Zh (Zq (fun r=>?_) fun r=>Zh (Zq (fun I=>?_) fun I=>?_)))
      ·have key:=ZFi c g q r
       cases hm:(⟨#[98,102,110,114,116]⟩:ByteArray)[(Lib.indexByte ctl c).toNat]? with
       | none=>rw [hm] at key;cases key
       | some m =>
         rw [hm] at key
         have he:Zgu c=[92,m]:=by simpa using key.symm
         refine Zo (ZeB (c:=92) v rfl (by omega) fun H n o=>Zo ⟨m,r,hm,ZeB (c:=m) n rfl (by simp at f ⊢;omega) fun P z A=>done ?_ (o.trans A)⟩)
         rw [he]
         simpa using z
      ·have he:=ZFh c g q (by omega) (by omega)
       have C:ZNM[(ZvH .u8 (c.toNat:Int) 4).toNat]?=some (Zy9 (c.toNat / 16)):=by
         rw [ZCk ⟨c.toNat,c.toNat_lt⟩,Aqu]
         exact ZCx ⟨c.toNat / 16,by omega⟩
       have D:ZNM[(Zvm .u8 (c.toNat:Int) 15).toNat]?=some (Zy9 (c.toNat % 16)):=by
         rw [ZCj ⟨c.toNat,c.toNat_lt⟩,Aqu]
         exact ZCx ⟨c.toNat % 16,by omega⟩
       have p1:0<=ZvH .u8 (c.toNat:Int) 4:=by rw [ZCk ⟨c.toNat,c.toNat_lt⟩];omega
       have p2:0<=Zvm .u8 (c.toNat:Int) 15:=by rw [ZCj ⟨c.toNat,c.toNat_lt⟩];omega
       refine Zo (Zxi v (s:=Zj [92,117,48,48]) (by rw [ZdJ];simp at f ⊢;omega) fun H n o=>Zo ⟨by decide,_,p1,C,?_⟩)
       refine ZeB n rfl (by simp at f ⊢;omega) fun P z A=>Zo ⟨_,p2,D,?_⟩
       refine ZeB z rfl (by simp at f ⊢;omega) fun X b6 u6=>done ?_ ((o.trans A).trans u6)
       rw [he]
       simpa using b6
      ·have he:=ZBA c g q (by omega) (by omega)
       refine Zo (ZeB (c:=c) v rfl (by omega) fun H n o=>done ?_ o)
       rw [he];exact n
   ·refine ZPO 34 rfl (fun e=>⟨rfl,by simp [e]⟩) fun g=>Zh ⟨rfl,?_⟩
    simp only [g,false_or]
    constructor
    ·intro E;exact Zke (d:=92) (beq_iff_eq.1 E)
    ·rintro rfl;rfl
  ·have J:i=t.length:=by rw [ZdJ] at G;omega
   subst J
   rw [List.take_length] at v
   refine Zo (ZeB (c:=34) v rfl (by rw [Awe,Aqj];omega) fun O b3 u3=>R O ?_ (N.trans u3))
   simpa [ZgE] using b3
end
def ZzT (f60:ZtY) (v:JV):Prop:=∀ {h:Zc} {B:Nat} {out:BL} {z:VT5} {S:Nat->Prop} {K:HP},ZaS h S z v->(∀ j,S j->j<B)->Bld h B 190 out->(v.k=7->v.ns.length=v.sub.len)->okN v.sub->out.length+(Zbn v).length<800000000 ->
  (∀ h' a,Bld h' B 190 a->WR out (Zbn v) a->out.length<=a.length->a.length<=out.length+(Zbn v).length->BU B h h'->K h')->f60 (At B) z K h
theorem Ztb {ob:Bool} {first:Bool} {ns:List BL} {k:Nat} {t:BL} {ns':List BL} {sub rest:JL}:YM ob first ns (.cons k t ns' sub rest)=ZqZ first++nmB ob ns++Zbn ⟨k,t,ns',sub⟩++YM ob false ns.tail rest:=rfl
theorem Zne {h:Zc} {B:Nat} {T:TypeId} {out:BL} (a:Bld h B T out) {j:Nat} (e:ZwG h B j):B<=j/\j<sz h:=by
  have f:=a.lt
  obtain ⟨i,c,x,b,k,g⟩:=a
  rcases (ZjV b).1 e with d | d
  ·omega
  ·have:=g.lt d;omega
theorem ZuX {h h':Zc} {B:Nat} {T:TypeId} {out:BL} (b:Bld h B T out) (e:Ext h h') {j:Nat} (d:ZwG h' B j):ZwG h B j:=by
  rcases d with a | ⟨c,x,f,a,g⟩
  ·exact .inl a
  ·rw [Zu e b.lt] at a
   exact .inr ⟨c,x,f,a,g⟩
theorem Zl3 {f60:ZtY} {v:JV} (X:∀ i k t ns s r,v.sub.drop i = .cons k t ns s r->ZzT f60 ⟨k,t,ns,s⟩):ZzT (ZbL f60) v:=by
  intro h B out z S K V hS W Y aC hlen Z
  unfold ZbL ZdO
  have aa:=W.lt
  have hs:sz h=h.size:=rfl
  refine YZ fun J c1 e1 z1=>Zo ?_
  have l:obj J h.size=some (.cells (Xq z).toArray 33 (0,0)):=c1
  have b1:Bld J B 190 out:=W.congr fun j _ L=>Zu e1 L
  have y:BU B h J:=Ext.bu e1 aa
  have f1:¬ ZwG J B h.size:=fun g=>by
    rcases g with h8 | ⟨c,x,T,h8,h7⟩
    ·omega
    ·rw [Zu e1 aa] at h8
     have:=(Zne W (.inr ⟨c,x,T,h8,h7⟩)).2
     omega
  refine ZuF b1 (Zq (fun ae=>?_) fun ax=>?_)
  ·refine Z J out b1 (.inr ⟨by omega,by simp;omega⟩) (Aqo _) (by omega) y
  have e_:∀ {n:Nat} {A B:Prop},(v.k=n->A)->(v.k≠n->B)->Yq (z.1 ==(n:Int)) fun t=>Zy t A B:=fun {n A B} ha W=>by
    rw [V.1]
    exact Zh (Zag (fun e=>ha (by omega)) fun e=>W (by omega))
  have hp:Zbn v=prV v.k v.t (YM (decide (v.k=7)) true v.ns v.sub):=rfl
  have write:∀ {w:ByteArray} {wl:BL} {Kw:Int->Value->HP},w.data.toList=wl->Zbn v=wl->(∀ i e h',Kw i e h'=K h')->ZA (At B) w Kw J:=fun {w wl Kw} hw ag hK =>
    Zxi b1 (by have:w.size=wl.length:=by rw [<- hw];simp
               rw [<- ag] at this;omega) fun h' b' u'=>by
     rw [hK]
     rw [hw,<- ag] at b'
     exact Z h' _ b' (.inl rfl) (by simp) (by simp) (y.trans u')
  refine rI (Zb l rfl) (e_ (n:=1) (fun e=>Zo (write (wl:=[110,117,108,108]) rfl (by rw [hp,e];rfl) fun _ _ _=>rfl)) fun n1=>e_ (n:=2) (fun e=>Zo (write (wl:=[102,97,108,115,101]) rfl (by rw [hp,e];rfl) fun _ _ _=>rfl)) fun n2 =>
    e_ (n:=3) (fun e=>Zo (write (wl:=[116,114,117,101]) rfl (by rw [hp,e];rfl) fun _ _ _=>rfl)) fun n3=>e_ (n:=4) (fun e=>Zo (rS (Zb l rfl) (write (wl:=v.t) (by rw [V.2.1]) (by rw [hp,e];rfl) fun _ _ _=>rfl))) fun n4=>e_ (n:=5) (fun e=>?_) fun n5=>?_)
  ·refine rS (Zb l rfl) ?_
   rw [V.2.1]
   have aG:Zbn v=ZgE v.t:=by rw [hp,e];rfl
   rw [aG] at hlen Z
   exact Zoe b1 hlen fun h' b' u'=>Z h' _ b' (.inl rfl) (by simp) (by simp) (y.trans u')
  ·
   have C:Zbn v=(if v.k=7 then 123 else 91)::(YM (decide (v.k=7)) true v.ns v.sub++[if v.k=7 then 125 else 93]):=by
     rw [hp]
     unfold prV
     rw [if_neg n1,if_neg n2,if_neg n3,if_neg n4,if_neg n5]
     split<;>rfl
   have bA:(Zbn v).length=(YM (decide (v.k=7)) true v.ns v.sub).length+2:=by rw [C];simp
   generalize ah:(if v.k=7 then 123 else 91:UInt8)=op at C
   generalize ai:(if v.k=7 then 125 else 93:UInt8)=cl at C
   refine ZO (fun p h'=>h'=J/\p.1=Zj [op,cl]) ?_ ?_
   ·rintro ⟨ends,u⟩ h2 ⟨rfl,m⟩
    dsimp only at m ⊢
    subst m
    refine Zo ⟨op,by omega,rfl,?_⟩
    refine ZeB b1 rfl (by omega) fun h3 b3 u3=>?_
    obtain ⟨c3,f3⟩:=u3.keep l f1
    refine rL (s:=z.2.2.1) (Zb c3 rfl) ?_
    obtain ⟨a1,a2,a3,a4,cx,a5,a6,a7⟩:=id V
    have bE:z.2.2.1.len=v.sub.len:=by have:=a5.len;have:=a7.len;omega
    have ae:=a5.big
    have bg:=a5.cap
    have d:∀ {a:Zc},BU B h a->∀ j,S j->j<sz h->obj a j=obj h j:=fun u j F L=>Zt u.upd L fun g=>by have:=(Zne W g).1;have:=hS j F;omega
    refine Zv (fun p h'=>∃ (i:Nat) (q M:BL),p.1=i/\i<=v.sub.len/\Bld h' B 190 M/\WR (out++[op]) q M/\(out++[op]).length<=M.length/\M.length<=(out++[op]).length+q.length/\BU B h3 h' /\
        YM (decide (v.k=7)) true v.ns v.sub=q++YM (decide (v.k=7)) (decide (i=0)) (v.ns.drop i) (v.sub.drop i)) (fun p _=>(v.sub.len - p.1).toNat)
      ⟨0,[],out++[op],rfl,Ayk _,b3,WR.refl _,Aqo _,by simp,BU.refl _ _,rfl⟩ ?_
    rintro ⟨i0,u⟩ G ⟨i,q,M,hi,hle,N,w4,l4,O,u4,q4⟩
    dsimp only at hi ⊢
    subst hi
    obtain ⟨c4,f4⟩:=u4.keep c3 f3
    have D:=y.trans (u3.trans u4)
    refine Zq (fun bF=>?_) fun bG=>?_
    ·have aL:i<v.sub.len:=by omega
     obtain ⟨k,t,ns,s,r,hd⟩:=JL.drop_cons aL
     have aM:=Ztb (ob:=decide (v.k=7)) (first:=decide (i=0)) (ns:=v.ns.drop i) (k:=k) (t:=t) (ns':=ns) (sub:=s) (rest:=r)
     rw [hd,aM] at q4
     have b:=congrArg List.length q4
     simp only [Awe] at b
     have ra:Row G z.2.2.1 4 cx:=Ym a5 a6 (d D)
     have la:XC G S v.sub cx:=a7.keep (d D) fun j F=>F
     refine ZgR ra la hd rfl fun zi aN=>?_
     refine YZ fun h5 c5 e5 z5=>Za ?_
     have aO:obj h5 G.size=some (.cells zV.toArray 33 (0,0)):=c5
     have bL:sz G=G.size:=rfl
     have B4:=N.lt
     refine ZfK aO (by simp) (ZcA zi) fun P c6 u6 z6=>?_
     have aQ:obj P G.size=some (.cells (Xq zi).toArray 33 (0,0)):=c6
     have f:Ext G P:=e5.updS u6 fun j F=>by omega
     have b6:Bld P B 190 M:=N.congr fun j _ L=>Zu f L
     have aR:¬ ZwG P B G.size:=fun g=>by have:=(Zne N (ZuX N f g)).2;omega
     have aS:¬ ZwG P B h.size:=fun g=>f4 (ZuX N f g)
     have aT:obj P h.size=some (.cells (Xq z).toArray 33 (0,0)):=Zn c4 f
     have aU:=D.trans (Ext.bu f B4)
     have bO:∀ (x:BL),(out++[op]).length+(q++x).length=out.length+1+q.length+x.length:=fun x=>by simp;omega
     refine ZO (fun _ h'=>∃ H,Bld h' B 190 H/\WR (out++[op]) (q++ZqZ (decide (i=0))) H/\(out++[op]).length<=H.length/\H.length<=(out++[op]).length+(q++ZqZ (decide (i=0))).length/\BU B P h') ?_ ?_
     ·rintro ⟨⟩ h7 ⟨H,b7,w7,l7,ak,Q⟩
      obtain ⟨al,bP⟩:=Q.keep aT aS
      obtain ⟨aV,aW⟩:=Q.keep aQ aR
      have an:=aU.trans Q
      refine ZO (fun _ h'=>∃ o8,Bld h' B 190 o8/\WR (out++[op]) (q++ZqZ (decide (i=0))++nmB (decide (v.k=7)) (v.ns.drop i)) o8/\(out++[op]).length<=o8.length/\o8.length<=(out++[op]).length+(q++ZqZ (decide (i=0))++nmB (decide (v.k=7)) (v.ns.drop i)).length/\BU B h7 h') ?_ ?_
      ·rintro ⟨⟩ h8 ⟨o8,b8,w8,l8,aq,u8⟩
       obtain ⟨E,bQ⟩:=u8.keep aV aW
       have bR:=an.trans u8
       refine rI (Zb E rfl) (rS (Zb E rfl) (rL (s:=zi.2.2.1) (Zb E rfl) (rL (s:=zi.2.2.2.1) (Zb E rfl) ?_)))
       have I:=Zut i aC hd
       refine X i k t ns s r hd (S:=S) (aN.keep (fun j F L=>?_) fun j F=>F) hS b8 I.1 I.2 (by simp only [Awe,List.length_singleton] at aq ⊢;omega) fun g o9 b9 w9 l9 aY u9=>?_
       ·have aZ:=(Ext.bu f B4).trans (Q.trans u8)
        exact Zt aZ.upd L fun g=>by have:=(Zne N g).1;have:=hS j F;omega
       ·rw [YA (by omega) (by omega)]
        refine ⟨⟨i+1,q++ZqZ (decide (i=0))++nmB (decide (v.k=7)) (v.ns.drop i)++Zbn ⟨k,t,ns,s⟩,o9,rfl,by omega,b9,WR.trans w8 w9 l9,by omega,?_,(Ext.bu f B4 |> u4.trans).trans ((Q.trans u8).trans u9),?_⟩,by omega⟩
        ·simp only [Awe,List.length_singleton] at aq aY ⊢;omega
        ·rw [q4,JL.drop_succ i _ hd]
         simp
      ·refine rI (Zb al rfl) ?_
       rw [V.1]
       refine Zag (fun e7=>?_) fun e7=>?_
       ·have k7:v.k=7:=by omega
        have bW:=Y k7
        have R:i<v.ns.length:=by omega
        refine rL (s:=z.2.2.2.1) (Zb al rfl) (ZgQ (Ym a3 a4 (d an)) (Ayb R) rfl ?_)
        have U:nmB (decide (v.k=7)) (v.ns.drop i)=ZgE v.ns[i]++[58]:=by
          rw [decide_eq_true k7,Ayl R];rfl
        rw [U] at b ⊢
        simp only [Awe,List.length_singleton] at b ak
        refine Zoe b7 (by omega) fun h8 b8 u8=>Zo (ZeB (c:=58) b8 rfl (by simp only [Awe];omega) fun g b9 u9=>?_)
        refine ⟨_,b9,?_,?_,?_,u8.trans u9⟩
        ·have:H++ZgE v.ns[i]++[58]=H++(ZgE v.ns[i]++[58]):=by simp
         rw [this]
         exact WR.trans w7 (.inl rfl) (by simp)
        ·simp only [Awe,List.length_singleton];simp only [Awe,List.length_singleton] at l7;omega
        ·simp only [Awe,List.length_singleton];omega
       ·have U:nmB (decide (v.k=7)) (v.ns.drop i)=[]:=by
          rw [decide_eq_false (show ¬ v.k=7 by omega)];rfl
        rw [U,Ayt]
        exact ⟨H,b7,w7,l7,ak,BU.refl _ _⟩
     ·refine Zq (fun av=>?_) fun av=>?_
      ·have o:ZqZ (decide (i=0))=[44]:=by rw [decide_eq_false (show ¬ i=0 by omega)];rfl
       rw [o] at b ⊢
       simp only [Awe,List.length_singleton] at O b
       refine Zo (ZeB (c:=44) b6 rfl (by omega) fun h7 b7 Q=>⟨_,b7,WR.trans w4 (.inl rfl) (by simp),?_,?_,Q⟩)
       ·simp only [Awe,List.length_singleton];simp only [Awe,List.length_singleton] at l4;omega
       ·simp only [Awe,List.length_singleton];omega
      ·have o:ZqZ (decide (i=0))=[]:=by rw [decide_eq_true (show i=0 by omega)];rfl
       rw [o,Ayt]
       exact ⟨M,b6,w4,l4,O,BU.refl _ _⟩
    ·have R:i=v.sub.len:=by omega
     rw [JL.drop_nil (by omega)] at q4
     have q5:YM (decide (v.k=7)) true v.ns v.sub=q:=by rw [q4];simp [YM]
     have bX:q.length=(YM (decide (v.k=7)) true v.ns v.sub).length:=by rw [q5]
     simp only [Awe,List.length_singleton] at l4 O
     refine Zo ⟨cl,by omega,rfl,ZeB N rfl (by omega) fun g b9 u9=>?_⟩
     refine Z g _ b9 ?_ (by simp only [Awe];omega) (by simp only [Awe,List.length_singleton];omega) (D.trans u9)
     have ba:Zbn v=[op]++q++[cl]:=by rw [C,q5];simp
     rw [ba]
     rcases w4 with e4 | ⟨g1,g2⟩
     ·left;rw [e4];simp
     ·right
      simp only [Awe,List.length_singleton] at g2 ⊢
      omega
   ·refine rI (Zb l rfl) ?_
    rw [V.1]
    refine Zag (fun e=>⟨rfl,?_⟩) fun e=>⟨rfl,?_⟩
    ·have:v.k=7:=by omega
     rw [<- ah,<- ai,if_pos this,if_pos this]
    ·have:v.k≠7:=by omega
     rw [<- ah,<- ai,if_neg this,if_neg this]
end Go.Proofs.YtpjbjdheeemdiaaGreatDoor
namespace Go.Js
open Go
theorem Zm3 {l:JL}:l.isNil=true↔l = .nil:=by cases l<;>simp [JL.isNil]
theorem ZrK {t:BL}:ZFB t=true↔Zih t = .ok () []/\t.length<=65536:=by
  constructor
  ·intro h
   unfold ZFB at h
   cases hp:Zdo t with
   | err e k=>rw [hp] at h;cases h
   | ok v =>
     rw [hp] at h
     simp only [Awn,decide_eq_true_eq] at h
     obtain ⟨f,ht⟩:=h
     have o:=(ZjJ hp).2.2
     refine ⟨?_,o⟩
     rw [Zi7 o] at hp
     cases g:Y2 64 t with
     | err e r=>rw [g] at hp;cases hp
     | ok w r =>
       rw [g] at hp
       simp only at hp
       split at hp
       ·cases hp
        have s:∀ {op:Bool->BL->Out JV},(∀ b c l w r,op b (c::l) = .ok w r->w.k≠4)->Zgx op t = .ok v r->Zih t = .ok () []:=by
          intro op i a
          unfold Zgx at a
          split at a
          ·cases a
          ·rename_i c u e
           have y:=ZbI t
           rw [e] at y
           split at a
           ·exact absurd f (i _ _ _ _ _ a)
           split at a
           ·exact absurd f (i _ _ _ _ _ a)
           split at a
           ·obtain ⟨_,_,_,d⟩:=Yh a;cases d;cases f
           split at a
           ·obtain ⟨_,_,_,d⟩:=Yh a;cases d;cases f
           split at a
           ·obtain ⟨_,_,_,d⟩:=Yh a;cases d;cases f
           split at a
           ·obtain ⟨_,_,_,d⟩:=Yh a;cases d;cases f
           split at a
           ·obtain ⟨_,C,q,d⟩:=Yh a
            cases d
            simp only at ht
            have j:=ZlS.sf.suf q
            obtain ⟨x,m⟩:=j
            have hu:upto (c::u) r=x:=by rw [<- m,Zc0]
            rw [hu] at ht
            have hlen:=congrArg List.length m
            rw [ht,Awe] at hlen
            have n:r=[]:=Aqr (by omega)
            subst n
            rw [Ayt] at m
            rw [<- ht,m];exact q
           ·cases a
        refine s (op:=Zqi (Y2 63)) (fun b c l w r z=>?_) g
        obtain ⟨p,D,_,A⟩:=Yh z
        cases A
        cases b<;>simp
       ·cases hp
  ·rintro ⟨g,d⟩
   have B:ZaX 64 ⟨4,t,[],.nil⟩:=⟨.inr (.inl ⟨rfl,g,d,rfl,rfl⟩),trivial,trivial⟩
   have:=ZoO (v:=⟨4,t,[],.nil⟩) B d
   have e:Zbn ⟨4,t,[],.nil⟩=t:=rfl
   rw [e] at this
   unfold ZFB
   rw [this];simp
theorem Zxo {k:Nat} {t:BL} {ns:List BL} {sub:JL}:whB k t ns sub=true↔ZgB k t ns sub:=by
  unfold whB ZgB
  by_cases d:k=1\/k=2\/k=3
  ·rw [if_pos d]
   simp only [Awn,decide_eq_true_eq,Zm3]
   constructor
   ·rintro ⟨a,b,c⟩;exact .inl ⟨d,a,c,b⟩
   ·rintro (⟨_,a,b,c⟩ | ⟨a,_⟩ | ⟨a,_⟩ | ⟨a,_⟩ | ⟨a,_⟩)
    ·exact ⟨a,c,b⟩
    all_goals omega
  rw [if_neg d]
  by_cases e:k=4
  ·rw [if_pos e]
   simp only [Awn,decide_eq_true_eq,Zm3,ZrK]
   constructor
   ·rintro ⟨⟨a,f⟩,b,c⟩;exact .inr (.inl ⟨e,a,f,c,b⟩)
   ·rintro (⟨a,_⟩ | ⟨_,a,f,b,c⟩ | ⟨a,_⟩ | ⟨a,_⟩ | ⟨a,_⟩)
    ·exact absurd a d
    ·exact ⟨⟨a,f⟩,c,b⟩
    all_goals omega
  rw [if_neg e]
  by_cases g:k=5
  ·rw [if_pos g]
   simp only [Awn,decide_eq_true_eq,Zm3,Zmc]
   constructor
   ·rintro ⟨a,b,c⟩;exact .inr (.inr (.inl ⟨g,a,c,b⟩))
   ·rintro (⟨a,_⟩ | ⟨a,_⟩ | ⟨_,a,b,c⟩ | ⟨a,_⟩ | ⟨a,_⟩)
    ·exact absurd a d
    ·omega
    ·exact ⟨a,c,b⟩
    all_goals omega
  rw [if_neg g]
  by_cases i:k=6
  ·rw [if_pos i]
   simp only [Awn,decide_eq_true_eq]
   constructor
   ·rintro ⟨a,b⟩;exact .inr (.inr (.inr (.inl ⟨i,a,b⟩)))
   ·rintro (⟨a,_⟩ | ⟨a,_⟩ | ⟨a,_⟩ | ⟨_,a,b⟩ | ⟨a,_⟩)
    ·exact absurd a d
    ·omega
    ·omega
    ·exact ⟨a,b⟩
    ·omega
  rw [if_neg i]
  by_cases j:k=7
  ·rw [if_pos j]
   simp only [Awn,decide_eq_true_eq,Axc,Zmc]
   constructor
   ·rintro ⟨a,b,c⟩;exact .inr (.inr (.inr (.inr ⟨j,a,b,c⟩)))
   ·rintro (⟨a,_⟩ | ⟨a,_⟩ | ⟨a,_⟩ | ⟨a,_⟩ | ⟨_,a,b,c⟩)
    ·exact absurd a d
    ·omega
    ·omega
    ·omega
    ·exact ⟨a,b,c⟩
  rw [if_neg j]
  constructor
  ·intro h;cases h
  ·rintro (⟨a,_⟩ | ⟨a,_⟩ | ⟨a,_⟩ | ⟨a,_⟩ | ⟨a,_⟩)
   ·exact absurd a d
   all_goals omega
theorem ZkZ {k:Nat} {t:BL} {ns:List BL} {sub:JL} (h:ZgB k t ns sub) (a:k≠6) (b:k≠7):sub = .nil:=by
  rcases h with ⟨_,_,_,h⟩ | ⟨_,_,_,_,h⟩ | ⟨_,_,_,h⟩ | ⟨h,_⟩ | ⟨h,_⟩
  ·exact h
  ·exact h
  ·exact h
  ·exact absurd h a
  ·exact absurd h b
theorem Zhb:∀ (l:JL) (d n dp g e:Nat),d<=64->ZcZ whB d l n dp=(true,g,e)->e<=64->Zc5 (64 - d) l/\g=n+ZiQ l/\dp<=e
  | .nil,d,n,dp,g,e,hd,h,hp=>by
    cases h
    exact ⟨by cases 64 - d<;>exact trivial,rfl,Aqo _⟩
  | .cons k t ns sub rest,d,n,dp,g,e,hd,h,hp=>by
    simp only [ZcZ] at h
    split at h
    ·cases h
    split at h
    ·cases h
    rename_i s hw
    have p:ZgB k t ns sub:=Zxo.1 (by simpa using hw)
    split at h
    ·rename_i f
     obtain ⟨a,b,c⟩:=Zhb rest d (n+1) dp g e hd h hp
     have i:=ZkZ p f.1 f.2
     subst i
     refine ⟨?_,by simp only [ZiQ];omega,c⟩
     cases j:64 - d with
     | zero=>rw [j] at a;exact ⟨p,f.1,f.2,a⟩
     | succ m=>rw [j] at a;exact ⟨p,by cases m<;>exact trivial,a⟩
    split at h
    ·obtain ⟨a,b,c⟩:=Zhb rest d (n+1) _ g e hd h hp
     omega
    rename_i f r
    split at h
    ·rename_i q
     have o:ZcZ whB (d+1) sub (n+1) (max dp (d+1))=(true,(ZcZ whB (d+1) sub (n+1) (max dp (d+1))).2.1,(ZcZ whB (d+1) sub (n+1) (max dp (d+1))).2.2):=by rw [<- q]
     obtain ⟨a,b,c⟩:=Zhb rest d _ _ g e hd h hp
     obtain ⟨a2,u,c2⟩:=Zhb sub (d+1) (n+1) (max dp (d+1)) _ _ (by omega) o (by omega)
     refine ⟨?_,by simp only [ZiQ];omega,by omega⟩
     obtain ⟨m,hm⟩:∃ m,64 - d=m+1:=⟨64 - d - 1,by omega⟩
     rw [hm] at a ⊢
     rw [show 64 - (d+1)=m by omega] at a2
     exact ⟨p,a2,a⟩
    ·rename_i q
     rw [h] at q
     exact absurd rfl q
theorem Zi0:∀ (l:JL) (d n dp:Nat),d<=64->Zc5 (64 - d) l->n+ZiQ l<=65536->dp<=64->∃ c,ZcZ whB d l n dp=(true,n+ZiQ l,c)/\c<=64
  | .nil,d,n,dp,_,_,_,hp=>⟨dp,rfl,hp⟩
  | .cons k t ns sub rest,d,n,dp,hd,h,j,hp=>by
    simp only [ZiQ] at j
    have o:ZgB k t ns sub:=by cases e:64 - d<;>rw [e] at h<;>exact h.1
    have p:Zc5 (64 - d) rest:=by
      cases e:64 - d with
      | zero=>rw [e] at h;exact h.2.2.2
      | succ m=>rw [e] at h;exact h.2.2
    simp only [ZcZ]
    rw [if_neg (by omega),if_neg (by simp [Zxo.2 o])]
    by_cases f:k≠6/\k≠7
    ·have g:=ZkZ o f.1 f.2
     subst g
     rw [if_pos f]
     obtain ⟨c,a,b⟩:=Zi0 rest d (n+1) dp hd p (by simp only [ZiQ] at j;omega) hp
     exact ⟨c,by rw [a];simp only [ZiQ];congr 2;omega,b⟩
    ·rw [if_neg f]
     obtain ⟨m,hm⟩:∃ m,64 - d=m+1:=by
       cases e:64 - d with
       | zero=>rw [e] at h;exact absurd ⟨h.2.1,h.2.2.1⟩ f
       | succ m=>exact ⟨m,rfl⟩
     rw [if_neg (by omega)]
     rw [hm] at h
     obtain ⟨c,a,b⟩:=Zi0 sub (d+1) (n+1) (max dp (d+1)) (by omega) (by rw [show 64 - (d+1)=m by omega];exact h.2.1) (by omega) (by omega)
     rw [a,if_pos rfl]
     obtain ⟨i,a2,q⟩:=Zi0 rest d (n+1+ZiQ sub) c hd p (by omega) b
     exact ⟨i,by rw [a2];simp only [ZiQ];congr 2;omega,q⟩
theorem Zi3:∀ {d:Nat} {l:JL},Zc5 d l->okN l
  | _,.nil,_=>trivial
  | 0,.cons k t ns sub rest,h=>by
    have:=ZkZ h.1 h.2.1 h.2.2.1
    subst this
    exact ⟨fun e=>absurd e h.2.2.1,trivial,Zi3 h.2.2.2⟩
  | d+1,.cons k t ns sub rest,h=>by
    refine ⟨fun e=>?_,Zi3 h.2.1,Zi3 h.2.2⟩
    rcases h.1 with ⟨a,_⟩ | ⟨a,_⟩ | ⟨a,_⟩ | ⟨a,_⟩ | ⟨_,_,b,_⟩
    ·omega
    ·omega
    ·omega
    ·omega
    ·exact b
end Go.Js
namespace Go.Proofs.YtpjbjdheeemdiaaGreatDoor
open Go Go.Fw Go.Js
theorem Zi4 {v:JV}:ZgC v=true↔ZaX 64 v/\Zg8 v<=65536:=by
  have c:ZiQ (.cons v.k v.t v.ns v.sub .nil)=Zg8 v:=by simp [ZiQ,Zg8]
  unfold ZgC Zhy
  constructor
  ·intro h
   simp only [Awn,decide_eq_true_eq] at h
   have e:ZcZ whB 0 (.cons v.k v.t v.ns v.sub .nil) 0 0=(true,(ZcZ whB 0 (.cons v.k v.t v.ns v.sub .nil) 0 0).2.1,(ZcZ whB 0 (.cons v.k v.t v.ns v.sub .nil) 0 0).2.2):=by rw [<- h.1]
   obtain ⟨a,b,_⟩:=Zhb _ 0 0 0 _ _ (by omega) e h.2
   have f:=(ZfS whB (.cons v.k v.t v.ns v.sub .nil) 0 0 0 (by omega)).2 h.1
   exact ⟨a,by omega⟩
  ·rintro ⟨a,b⟩
   obtain ⟨d,e,h⟩:=Zi0 (.cons v.k v.t v.ns v.sub .nil) 0 0 0 (by omega) a (by omega) (by omega)
   rw [e]
   simp [h]
theorem Zl4:∀ (m:Nat) (v:JV),v.sub.hei<=m->ZzT (XJ (m+1)) v
  | 0,v,hm=>Zl3 (f60:=XJ 0) fun i k t ns s r hd=>by have:=JL.drop_hei i v.sub hd;omega
  | m+1,v,hm=>Zl3 (f60:=XJ (m+1)) fun i k t ns s r hd=>Zl4 m ⟨k,t,ns,s⟩ (by have:=JL.drop_hei i v.sub hd;show s.hei<=m;omega)
theorem ZvZ {h:Zc} {z:VT5} {v:JV} {S:Nat->Prop} {K:ByteArray->Int->HP} (B:ZaS h S z v) (o:∀ j,S j->j<sz h) (i:ZFE v) (hlen:(Zbn v).length<800000000) (ht:ZaT h) (N:9<=sz h)
    (t:∀ s e h',Ext h h'->(ZgC v=false->s=Zj []/\e=6)->(ZgC v=true->65536<(Zbn v).length->s=Zj []/\e=5)->(ZgC v=true->(Zbn v).length<=65536->s=Zj (Zbn v)/\e=0)->K s e h'):Ze8 z K h:=by
  unfold Ze8 ZiJ
  have O:sz h=h.size:=rfl
  refine YZ fun p G k P=>Za ?_
  have b:obj p h.size=some (.cells (Xq z).toArray 33 (0,0)):=G
  have s1:sz p=p.size:=rfl
  refine rI (Zb b rfl) (rS (Zb b rfl) (rL (s:=z.2.2.1) (Zb b rfl) (rL (s:=z.2.2.2.1) (Zb b rfl) ?_)))
  have u:∀ j,S j->j<sz p:=fun j g=>Aqq (o j g) k.size
  refine ZvQ (z:=z) (B.ext o k) u i (ht.ext k) (by omega) fun q r=>?_
  cases l:ZgC v with
  | false =>
    refine Zm rfl (Za (t _ _ q (k.trans r) (fun _=>⟨rfl,rfl⟩) (fun h=>by rw [l] at h;cases h) fun h=>by rw [l] at h;cases h))
  | true =>
    have w:=(Zi4.1 l).1
    have d:=Zi3 w
    refine Zl rfl (YZ fun x c3 C z3=>?_)
    have a:=Zn (Zn b r) C
    have s2:sz q=q.size:=rfl
    have Q:sz x=x.size:=rfl
    have D:Bld x q.size 190 []:=⟨.inr rfl,.pointer none,⟨none,0,0⟩,c3,.inl rfl,Buf.nil _ _⟩
    have m:=(k.trans r).trans C
    have y:=r.size
    refine rI (Zb a rfl) (rS (Zb a rfl) (rL (s:=z.2.2.1) (Zb a rfl) (rL (s:=z.2.2.2.1) (Zb a rfl) ?_)))
    refine ⟨v.sub.hei+1,Zl4 _ v (Aqo _) (z:=z) (S:=S) (B.ext o m) (fun j g=>by have:=o j g;omega) D d.1 d.2.1 (by simpa using hlen) fun E out F c R H I=>?_⟩
    have n:Ext h E:=m.updS I.upd fun j g=>by have:=(Zne D g).1;omega
    refine ZuF F (Zq (fun f=>Za (t _ _ E n (fun h=>by rw [l] at h;cases h) (fun _ _=>⟨rfl,rfl⟩) fun _ hle=>?_)) fun A=>?_)
    ·rcases c with c | ⟨_,c⟩
     ·rw [c] at f;simp at f;omega
     ·simp at c;omega
    ·have hw:out=Zbn v:=by
       rcases c with c | ⟨c,_⟩
       ·simpa using c
       ·omega
     refine Zmp F fun J L=>Za (t _ _ J (n.updS L fun j g=>by omega) (fun h=>by rw [l] at h;cases h) (fun _ M=>?_) fun _ _=>⟨by rw [hw],rfl⟩)
     rw [hw] at A
     omega
theorem Zv5 {h:Zc} {n:Int} (b : -9223372036854775808<=n/\n<=9223372036854775807) (ht:ZaT h) {K:VT5->HP} (e:∀ h',Ext h h'->K (4,Zj (Lib.itoa n),⟨none,0,0⟩,⟨none,0,0⟩,()) h'):Ze9 n K h:=by
  unfold Ze9 ZiK
  refine YZ fun f g c l=>⟨ht.ext c,b.1,b.2,fun m d=>?_⟩
  have a:obj f h.size=some (.cells zV.toArray 33 (0,0)):=g
  have o:sz h=h.size:=rfl
  exact ZbF (x:=⟨none,0,0⟩) (y:=⟨none,0,0⟩) (Zn a d) rfl fun i k z3=>e i ((c.trans d).updS k fun j p=>by omega)
end Go.Proofs.YtpjbjdheeemdiaaGreatDoor
namespace Go.Js
open Go
def ZqK:BL->BL × Bool
  | c::l=>if c=45 then (l,true) else (c::l,false)
  | []=>([],false)
def ZtG:BL->BL
  | c::l=>if c=43 then l else c::l
  | []=>[]
def ZFF (s:BL):Option Int:=if s=[] then some 0 else match Lib.atoiAll (ZtG s) with
  | .ok v=>if -1048576<=v/\v<=1048576 then some v else none
  | _=>none
def Zxn (t:BL):Option Int :=
  let m:=ZqK t
  let a:=Lib.cut (Lib.toLowerA m.1) [101]
  let b:=Lib.cut a.1 [46]
  let d:=Lib.trimLeftB (b.1++b.2.1) 48
  let g:=Lib.trimRightB d 48
  if g=[] then some 0 else match ZFF a.2.1 with
  | none=>none
  | some y =>
    let y:=y+((d.length:Int) - g.length - b.2.1.length)
    if y<0 then none else if 20<y then none else match Lib.atoiAll ((if m.2=true then [45] else [])++(g++Lib.repeatL [48] y.toNat)) with
    | .ok v=>some v
    | _=>none
theorem Znr (p:UInt8->Bool):∀ l:BL,(l.dropWhile p).length<=l.length
  | []=>Aqo _
  | c::l=>by
    rw [List.dropWhile_cons]
    split
    ·have:=Znr p l;simp;omega
    ·exact Aqo _
theorem ZxK (l:BL) (c:UInt8):(Lib.trimLeftB l c).length<=l.length:=Znr _ l
theorem ZxJ (l:BL) (c:UInt8):(Lib.trimRightB l c).length<=l.length:=by
  unfold Lib.trimRightB
  rw [List.length_reverse]
  have:=Znr (· ==c) l.reverse
  rw [List.length_reverse] at this
  exact this
end Go.Js
namespace Go.Proofs.YtpjbjdheeemdiaaGreatDoor
open Go Go.Fw Go.Js
theorem ZzL {l:BL} (b:l.length<=281474976710656) {h:Zc} (ht:ZaT h) {K:Int->Value->HP}
    (c:∀ v h',Lib.atoiAll l = .ok v->Ext h h'->K v .nilIface h') (d:∀ n t p h',(∀ v,Lib.atoiAll l≠ .ok v)->Ext h h'->K n (.iface t p) h'):ZeX (Zj l) K h:=by
  refine ⟨ht,b,?_⟩
  show match Lib.atoiAll l with
    | .ok v=>_
    | .range=>_
    | _=>_
  cases e:Lib.atoiAll l with
  | ok v=>exact fun h' a=>c v h' e a
  | _=>exact fun h' t p a=>d _ t p h' (fun v h=>by rw [e] at h;cases h) a
end Go.Proofs.YtpjbjdheeemdiaaGreatDoor
namespace Go.Js
open Go
theorem ZnX {l:BL} {v:JV} (h:Zdo l = .ok v):ZaX 64 v/\Zg8 v<=65536:=⟨(ZjJ h).1,(ZjJ h).2.1⟩
def Got.val:Got->JV
  | .ok v=>v
  | .err _ _=>⟨0,[],[],.nil⟩
end Go.Js
namespace Go.Proofs.YtpjbjdheeemdiaaGreatDoor
open Go Go.Fw Go.Js
theorem _root_.Go.Fw.Ext.szz {h h':Zc} (e:Ext h h'):sz h<=sz h':=e.size
theorem ZtV.val {h:Zc} {S:Nat->Prop} {g:Got} {z:VT5} {e n:Int} (r:ZtV h S g z e n):ZaS h S z g.val:=by
  cases g with
  | ok v=>exact r.1
  | err e k=>exact r.1
theorem ZtV.ext {h h':Zc} {S:Nat->Prop} {g:Got} {z:VT5} {e n:Int} (r:ZtV h S g z e n) (a:∀ j,S j->j<sz h) (u:Ext h h'):ZtV h' S g z e n:=by
  cases g with
  | ok v=>exact ⟨r.1.ext a u,r.2⟩
  | err e k=>exact ⟨r.1.ext a u,r.2⟩
theorem ZtV.mono {h:Zc} {S S':Nat->Prop} {g:Got} {z:VT5} {e n:Int} (r:ZtV h S g z e n) (a:∀ j,S j->S' j):ZtV h S' g z e n:=by
  cases g with
  | ok v=>exact ⟨r.1.keep (fun _ _ _=>rfl) a,r.2⟩
  | err e k=>exact ⟨r.1.keep (fun _ _ _=>rfl) a,r.2⟩
theorem ZtV.same {h h':Zc} {S S':Nat->Prop} {g:Got} {z z':VT5} {e n b c:Int} (r:ZtV h S g z e n) (a:ZtV h' S' g z' b c):e=b/\n=c:=by
  cases g with
  | ok v=>exact ⟨r.2.1.trans a.2.1.symm,r.2.2.trans a.2.2.symm⟩
  | err e k=>exact ⟨r.2.1.trans a.2.1.symm,r.2.2.trans a.2.2.symm⟩
theorem ZBh {f:ZD9} {h:Zc} {s:ByteArray} {g:Got} {K:VT5->Int->Int->Nat->HP}
    (p:∀ m:VT5->Int->Int->HP,(∀ z e n h',Ext h h'->ZtV h' (fun j=>sz h<=j/\j<sz h') g z e n->m z e n h')->f s m h)
    (q:∀ z e n b h',Ext h h'->obj h' b=some (.cells (Xq z).toArray 33 (0,0))->sz h<=b->b<sz h'->ZtV h' (fun j=>sz h<=j/\j<sz h') g z e n->K z e n b h') :
    f s (fun t t1 t2 a=>newC a [.int .u8 0,.string (ByteArray.mk #[]),.slice none 0 0,.slice none 0 0] 33 fun b u =>
      sts u b 0 [.int .u8 t.1,.string t.2.1,.slice t.2.2.1.ptr t.2.2.1.len t.2.2.1.cap,.slice t.2.2.2.1.ptr t.2.2.2.1.len t.2.2.2.1.cap] fun v=>K t t1 t2 b v) h:=by
  refine p _ fun z e n c o r=>YZ fun i c2 w z2=>?_
  have k:obj i c.size=some (.cells zV.toArray 33 (0,0)):=c2
  have s1:sz c=c.size:=rfl
  have s2:sz i=i.size:=rfl
  have x:=o.szz
  refine ZfK k (by simp) (ZcA z) fun a c3 y z3=>?_
  have l:Ext c a:=w.updS y fun j d=>by omega
  refine q z e n _ a (o.trans l) c3 (by omega) (by omega) ?_
  exact (r.ext (fun j d=>d.2) l).mono fun j d=>⟨d.1,by have:=l.szz;omega⟩
theorem Zyj {h:Zc} {s:ByteArray} (ht:ZaT h) (c:9<=sz h) {K:VT5->Int->Int->Nat->HP}
    (d:∀ z e n b h',Ext h h'->obj h' b=some (.cells (Xq z).toArray 33 (0,0))->sz h<=b->b<sz h'->ZtV h' (fun j=>sz h<=j/\j<sz h') (Zdo s.data.toList) z e n->K z e n b h') :
    ZaH s (fun t t1 t2 f=>newC f [.int .u8 0,.string (ByteArray.mk #[]),.slice none 0 0,.slice none 0 0] 33 fun b g =>
     sts g b 0 [.int .u8 t.1,.string t.2.1,.slice t.2.2.1.ptr t.2.2.1.len t.2.2.1.cap,.slice t.2.2.2.1.ptr t.2.2.2.1.len t.2.2.2.1.cap] fun i=>K t t1 t2 b i) h :=
  ZBh (fun _ a=>ZoN ht c a) d
end Go.Proofs.YtpjbjdheeemdiaaGreatDoor
namespace Go.Proofs.YtpjbjdheeemdiaaGreatDoor
open Go Go.Fw Go.Js
end Go.Proofs.YtpjbjdheeemdiaaGreatDoor
namespace Go.Proofs.YtpjbjdheeemdiaaGreatDoor
open Go Go.Fw Go.Lib
theorem Zqx {P:Program} {w:World} {t:TypeId} {ms:Array (String × TypeId)} {cs:List Value} {nm:String} {d:DataW Unit} {p:List MemPlace} {fuel:Nat}
    (hu:P.underlying t=some (.interface ms)) (h:DataW.trod (fun _=>()) P w 0 (fun _=>true) false fuel t cs=some (.iface nm d,p)):∃ u v,cs=[.iface u v]:=by
  cases fuel with
  | zero=>simp [DataW.trod] at h
  | succ fuel =>
    unfold DataW.trod at h
    rw [hu] at h
    split at h<;>simp_all
theorem Zsu {w:World} {n:String} {g:Nat} {t e:TypeId} {m:Nat} {k:IntKind} {zs:List Int} (j:Tryz.prog.globalNamed n=some g) (b:(Tryz.prog.globals[g]?).map (·.type)=some t)
    (ht:Tryz.prog.underlying t=some (.array m e)) (he:Tryz.prog.underlying e=some (.int k)) (c:Tryz.prog.cellsOf e=1) (d:Tryz.prog.cellsOf t=m) (h:VarReads Tryz.prog w n (tabData k zs)):TabIs Tryz.prog w n k zs:=by
  obtain ⟨l,o,cs,fuel,p,f,i,a,hd⟩:=h
  obtain rfl:=Option.some.inj (j.symm.trans f)
  obtain rfl:=Option.some.inj (b.symm.trans i)
  unfold TabIs
  rw [a,<- cells_of_tab ht he c d hd]
theorem ZBw:Rows.laid_unicode_utf8_first=firstData:=by kernel_rfl
theorem ZzS:(Rows.laid_unicode_utf8_acceptRanges:DataW Unit)=acceptData:=by kernel_rfl
theorem ZGD:(Rows.laid_internal_strconv_uint64pow10:DataW Unit)=tabData .u64 pow10Tab:=by kernel_rfl
theorem Zpa:Tryz.prog.globalNamed "unicode/utf8.first" = some 0:=by kernel_rfl
theorem ZtR:Tryz.prog.globalNamed "unicode/utf8.acceptRanges" = some 1:=by kernel_rfl
theorem ZAZ:Tryz.prog.globalNamed "internal/strconv.uint64pow10" = some 6:=by kernel_rfl
theorem ZvV:Tryz.prog.globalNamed "strconv.ErrRange" = some 5:=by kernel_rfl
theorem ZAH:Tryz.prog.globalNamed "strconv.ErrSyntax" = some 4:=by kernel_rfl
theorem Zwr:(Tryz.prog.globals[0]?).map (·.type)=some 271:=by kernel_rfl
theorem ZtQ:(Tryz.prog.globals[1]?).map (·.type)=some 274:=by kernel_rfl
theorem ZAY:(Tryz.prog.globals[6]?).map (·.type)=some 332:=by kernel_rfl
theorem ZvU:(Tryz.prog.globals[5]?).map (·.type)=some 177:=by kernel_rfl
theorem ZAG:(Tryz.prog.globals[4]?).map (·.type)=some 177:=by kernel_rfl
theorem ZNO:Tryz.prog.cellsOf 5=1:=by kernel_rfl
theorem ZFp:Tryz.prog.cellsOf 271=256:=by kernel_rfl
theorem ZNP:Tryz.prog.cellsOf 182=1:=by kernel_rfl
theorem ZNQ:Tryz.prog.cellsOf 332=20:=by kernel_rfl
theorem ZHf:Tryz.prog.cellsOf 273=2:=by kernel_rfl
theorem ZxA {w:World} (s:VarReads Tryz.prog w "unicode/utf8.first" firstData) (u:VarReads Tryz.prog w "unicode/utf8.acceptRanges" acceptData):Lib.Utf8Tabs 0 1 w:=by
  refine ⟨fun c v=>?_,fun i n=>?_⟩
  ·have x:=Zsu Zpa Zwr Tryz.underlying271 Tryz.underlying5 ZNO ZFp s
   rw [x.cell Zpa c (by simp [firstTab];omega)]
   simp [firstTab,List.getD,v]
  ·obtain ⟨g,t,cs,fuel,p,k,l,b,hd⟩:=u
   obtain rfl:=Option.some.inj (ZtR.symm.trans k)
   obtain rfl:=Option.some.inj (ZtQ.symm.trans l)
   obtain ⟨m,d,q,e,he⟩:=array_elem Tryz.underlying274 hd i n
   simp only [Awz,List.getElem?_range n,Aqx,Awh] at e
   subst e
   rw [ZHf] at he
   have h:=ints_of_struct Tryz.underlying273 (fun j f a=>by
     match j,a with
     | 0,a=>simp at a;subst a;exact ⟨Tryz.underlying5,rfl,ZNO⟩
     | 1,a=>simp at a;subst a;exact ⟨Tryz.underlying5,rfl,ZNO⟩
     | j+2,a=>simp at a) (by rw [ZHf];rfl) he
   have o:=congrArg (·[0]?) h
   have r:=congrArg (·[1]?) h
   simp only [Aqf,Aqg] at o r
   constructor
   ·rw [World.var?_cell k b (2*i),<- Axr]
    simpa [Azf] using o
   ·rw [World.var?_cell k b (2*i+1),<- Axr]
    simpa [Azf] using r
theorem Zse {w:World} {n nm:String} {g:Nat} {d:DataW Unit} (i:Tryz.prog.globalNamed n=some g) (b:(Tryz.prog.globals[g]?).map (·.type)=some 177) (h:VarReads Tryz.prog w n (.iface nm d)):∃ t p,w.cell? ⟨g,0,none⟩=some (.iface t p):=by
  obtain ⟨j,k,cs,fuel,p,c,f,a,hd⟩:=h
  obtain rfl:=Option.some.inj (i.symm.trans c)
  obtain rfl:=Option.some.inj (b.symm.trans f)
  obtain ⟨u,v,e⟩:=Zqx Tryz.underlying177 hd
  refine ⟨u,v,?_⟩
  rw [World.var?_cell i a 0,<- Axr,e];rfl
theorem ZyG:((begin Tryz.prog (fun _ _=>0) default).world.heap[2]?).bind Obj.row?=some (#[.int .i64 0],3):=by kernel_rfl
theorem Ztj:Tryz.prog.buildable 3=true:=by kernel_rfl
theorem Zwc:Tryz.prog.cellTypes Tryz.prog.depth 3=some [3]:=by kernel_rfl
theorem ZvF:(begin Tryz.prog (fun _ _=>0) default).world.heap.size=14:=by kernel_rfl
theorem Zlu:Tryz.prog.globals.size=9:=by kernel_rfl
end Go.Proofs.YtpjbjdheeemdiaaGreatDoor
namespace Go.Proofs.YtpjbjdheeemdiaaGreatDoor
open Go Go.Fw
section
variable {H:Type} {enc:TypeId × Value->H}
theorem ZxO {P:Program} {w:World} {base:Nat} {spare:Nat->Bool} {held:Bool} {t:TypeId} {fuel:Nat} {s:ByteArray} {d:DataW H} {p:List MemPlace} (ht:P.underlying t=some .string)
    (h:DataW.trod enc P w base spare held fuel t [.string s]=some (d,p)):d = .lit (.string s.data.toList):=by
  obtain ⟨s',a,b,_⟩:=DataW.trod_string ht h
  simp at a
  subst a
  exact (Prod.mk.inj b).1
end
theorem ZNk {n:Int} (h:(Lit.int .u8 n).wf=true):0<=n/\n<256:=by
  simp only [Lit.wf,Awn,decide_eq_true_eq] at h
  have a:IntKind.u8.min=0:=by decide
  have b:IntKind.u8.max=255:=by decide
  omega
theorem ZGi {n:Int} (h:(Lit.int .i64 n).wf=true) : -9223372036854775808<=n/\n<9223372036854775808:=by
  simp only [Lit.wf,Awn,decide_eq_true_eq] at h
  have a:IntKind.i64.min = -9223372036854775808:=by decide
  have b:IntKind.i64.max=9223372036854775807:=by decide
  omega
end Go.Proofs.YtpjbjdheeemdiaaGreatDoor
namespace Go.Proofs.YtpjbjdheeemdiaaGreatDoor
open Go Go.Fw Go.Js
end Go.Proofs.YtpjbjdheeemdiaaGreatDoor
namespace Go.Js
open Go
end Go.Js
namespace Go.Proofs.YtpjbjdheeemdiaaGreatDoor
open Go Go.Fw Go.Js
end Go.Proofs.YtpjbjdheeemdiaaGreatDoor
namespace Go.Js
open Go
def nsW:List BL->Nat
  | []=>0
  | n::l=>6*n.length+3+nsW l
def pw:JL->Nat
  | .nil=>0
  | .cons _ t ns sub rest=>9+6*t.length+nsW ns+pw sub+pw rest
def wV (v:JV):Nat:=9+6*v.t.length+nsW v.ns+pw v.sub
theorem Zta (v:JV):∀ l:JL,pw (l.snoc v)=pw l+wV v
  | .nil=>by simp [JL.snoc,pw,wV]
  | .cons _ _ _ _ r=>by simp only [JL.snoc,pw,Zta v r];omega
theorem ZyB (a:BL):∀ l:List BL,nsW (l++[a])=nsW l+(6*a.length+3)
  | []=>by simp [nsW]
  | n::l=>by simp only [Ayp,nsW,ZyB a l];omega
theorem Zti {n:BL}:∀ {l:List BL},n∈l->n.length<=nsW l
  | [],h=>by cases h
  | m::l,h=>by
    rcases Awr.1 h with rfl | h
    ·simp only [nsW];omega
    ·have:=Zti h;simp only [nsW];omega
theorem ZqG (c:UInt8):(Zgu c).length<=6:=by
  unfold Zgu
  split
  ·simp
  split
  ·simp
  split
  ·simp
  split
  ·simp
  split
  ·simp
  split
  ·simp
  split<;>simp
theorem ZuY:∀ t:BL,(t.flatMap Zgu).length<=6*t.length
  | []=>by simp
  | c::t=>by
    have:=ZuY t
    have:=ZqG c
    simp only [Azd,Awe,Aqj]
    omega
theorem ZmH (t:BL):(ZgE t).length<=6*t.length+2:=by
  have:=ZuY t
  unfold ZgE
  simp only [Aqj,Awe,Ays]
  omega
theorem Zyg (k:Nat) (t body:BL):(prV k t body).length<=5+6*t.length+body.length:=by
  have:=ZmH t
  unfold prV
  split
  ·simp;omega
  split
  ·simp;omega
  split
  ·simp;omega
  split
  ·omega
  split
  ·omega
  split
  ·simp;omega
  ·simp;omega
theorem ZGJ (ob:Bool) (ns:List BL):(nmB ob ns).length+nsW ns.tail<=3+nsW ns:=by
  cases ns with
  | nil =>
    cases ob
    ·simp [nmB,nsW]
    ·have:=ZmH []
     simp only [nmB,List.headD,List.tail,nsW,↓reduceIte,Awe,Aqj,Ays] at this ⊢
     omega
  | cons n ns =>
    cases ob
    ·simp only [nmB,List.tail,nsW];simp;omega
    ·have:=ZmH n
     simp only [nmB,List.headD,List.tail,nsW,↓reduceIte,Awe,Aqj,Ays] at this ⊢
     omega
theorem Zk3:∀ (l:JL) (ob first:Bool) (ns:List BL),(YM ob first ns l).length<=pw l+nsW ns
  | .nil,_,_,_=>by simp [YM]
  | .cons k t ns' sub rest,ob,first,ns=>by
    have a:=Zk3 sub (decide (k=7)) true ns'
    have b:=Zk3 rest ob false ns.tail
    have c:=Zyg k t (YM (decide (k=7)) true ns' sub)
    have d:=ZGJ ob ns
    have e:(ZqZ first).length<=1:=by cases first<;>simp [ZqZ]
    simp only [YM,pw,Awe]
    omega
theorem Zv0 (v:JV):(Zbn v).length<=wV v:=by
  have a:=Zk3 v.sub (decide (v.k=7)) true v.ns
  have b:=Zyg v.k v.t (YM (decide (v.k=7)) true v.ns v.sub)
  unfold Zbn wV
  omega
theorem Ztz:∀ (l:JL),pw l<9223372036854775807->ZHa l
  | .nil,_=>trivial
  | .cons _ t ns sub rest,h=>by
    simp only [pw] at h
    exact ⟨by omega,fun n a=>by have:=Zti a;omega,Ztz sub (by omega),Ztz rest (by omega)⟩
theorem ZFd {v:JV} (h:wV v<9223372036854775807):ZFE v:=by
  unfold wV at h
  exact ⟨by omega,fun n a=>by have:=Zti a;omega,Ztz _ (by omega)⟩
theorem ZpM (n:Nat):(Zhc n).length<=4:=by
  unfold Zhc
  split
  ·simp
  split
  ·simp
  split<;>simp
theorem ZEi {l o r:BL} (h:ZGn l = .ok o r):o.length+r.length<=l.length:=by
  rw [Zjx] at h
  obtain ⟨n,f,g,c⟩:=Yh h
  have q:=(ZfG 4 g).1
  split at c
  ·rename_i i d
   obtain ⟨m,s,j,e⟩:=Yh c
   have k:=(ZfG 4 j).1
   have p:f.length=i.length+2:=by
     split at d
     ·rw [Zfe d];rfl
     ·cases d
   split at e
   ·injection e with a b
    have:o.length<=4:=by rw [<- a];exact ZpM _
    rw [<- b]
    omega
   ·injection e with a b
    have:o.length<=4:=by rw [<- a];exact ZpM _
    rw [<- b]
    omega
  ·injection c with a b
   have:o.length<=4:=by rw [<- a];exact ZpM _
   rw [<- b]
   omega
theorem ZBC {l o r:BL} (h:ZtC l = .ok o r):o.length+r.length<=l.length:=by
  rcases l with _ | ⟨c,l⟩
  ·cases h
  ·rw [Zhq] at h
   split at h
   ·cases h;simp;omega
   ·split at h
    ·have:=ZEi h;simp;omega
    ·cases h
theorem Zt4 {l r:BL} (h:r <:+l):(upto l r).length+r.length=l.length:=by
  obtain ⟨x,rfl⟩:=h
  rw [Zc0];simp
theorem Zkg:∀ (n:Nat) (out l t r:BL),Zjy n out l = .ok t r->t.length+r.length+1<=out.length+l.length
  | 0,_,_,_,_,h=>by cases h
  | n+1,_,[],_,_,h=>by cases h
  | n+1,out,c::l,t,r,h=>by
    rw [ZkS] at h
    split at h
    ·cases h
    split at h
    ·cases h;simp;omega
    split at h
    ·obtain ⟨o,d,a,b⟩:=Yh h
     have:=ZBC a
     have:=Zkg n _ _ _ _ b
     simp at this ⊢
     omega
    split at h
    ·have:=Zkg n _ _ _ _ h
     simp at this ⊢
     omega
    ·obtain ⟨o,d,a,b⟩:=Yh h
     have f:=Zt4 (Ze1 a).2
     have e:=Zkg n _ _ _ _ b
     simp only [Awe] at e
     omega
theorem Zue {l t r:BL} (h:ZnJ l = .ok t r):t.length+r.length+1<=l.length:=by
  have:=Zkg _ _ _ _ _ h
  simpa using this
theorem ZyF {l nm r:BL} (h:ZhL l = .ok nm r):nm.length+r.length+3<=l.length:=by
  have b:=ZbI l
  unfold ZhL at h
  split at h
  ·rename_i c k e
   rw [e] at b
   split at h
   ·obtain ⟨t,g,i,a⟩:=Yh h
    have m:=Zue i
    have f:=ZbI g
    split at a
    ·rename_i d n j
     rw [j] at f
     split at a
     ·cases a
      simp only [Aqj] at b f
      omega
     ·cases a
    ·cases a
   ·cases h
  ·cases h
theorem ZGE {i:BL->Out JV} (j:∀ l v r,i l = .ok v r->wV v+16*r.length<=16*l.length) {ob:Bool} {ns:List BL} {sub:JL} {l:BL} {q:List BL × JL} {w:BL} (e:Zb2 i ob ns sub l = .ok q w) :
    nsW q.1+pw q.2+16*w.length<=nsW ns+pw sub+16*l.length:=by
  unfold Zb2 at e
  split at e
  ·obtain ⟨nm,n,k,m⟩:=Yh e
   obtain ⟨v,f,g,h⟩:=Yh m
   cases h
   have a:=ZyF k
   have b:=j _ _ _ g
   have c:=ZbI f
   dsimp only
   rw [Zta,ZyB]
   omega
  ·obtain ⟨v,f,g,h⟩:=Yh e
   cases h
   have b:=j _ _ _ g
   have c:=ZbI f
   have d:=ZbI l
   dsimp only
   rw [Zta]
   omega
theorem ZCp {c:BL->Out JV} (e:∀ l v r,c l = .ok v r->wV v+16*r.length<=16*l.length) (ob:Bool):∀ (m:Nat) (ns:List BL) (sub:JL) (l:BL) (p:List BL × JL) (r:BL),
    Zf6 c ob m ns sub l = .ok p r->nsW p.1+pw p.2+16*r.length<=nsW ns+pw sub+16*l.length
  | 0,_,_,_,_,_,h=>by cases h
  | m+1,ns,sub,l,p,r,h=>by
    have go:∀ d,d.length<=l.length->((Zb2 c ob ns sub d).bind fun p f=>Zf6 c ob m p.1 p.2 f) = .ok p r->nsW p.1+pw p.2+16*r.length<=nsW ns+pw sub+16*l.length:=fun d k g=>by
      obtain ⟨q,w,i,j⟩:=Yh g
      have a:=ZGE e i
      have b:=ZCp e ob m _ _ _ _ _ j
      omega
    unfold Zf6 at h
    split at h
    ·cases h;dsimp only;have:=l.length_tail;omega
    split at h
    ·exact go _ (Aqo _) h
    split at h
    ·exact go _ (by simp) h
    ·cases l<;>cases h
theorem Zt3 {op:Bool->BL->Out JV} (g:∀ b c l v r,op b (c::l) = .ok v r->wV v+16*r.length<=16*(c::l).length):∀ l v r,Zgx op l = .ok v r->wV v+16*r.length<=16*l.length:=by
  intro l v r h
  have i:=ZbI l
  unfold Zgx at h
  split at h
  ·cases h
  ·rename_i c k e
   rw [e] at i
   simp only [Aqj] at i
   split at h
   ·have:=g _ _ _ _ _ h;simp only [Aqj] at this;omega
   split at h
   ·have:=g _ _ _ _ _ h;simp only [Aqj] at this;omega
   split at h
   ·obtain ⟨t,j,a,d⟩:=Yh h
    cases d
    have f:=Zue a
    simp only [wV,nsW,pw]
    omega
   split at h
   ·obtain ⟨t,j,a,d⟩:=Yh h
    cases d
    have f:=(Zdl [110,117,108,108] (by decide)).2.len a
    simp only [wV,nsW,pw,Ays,Aqj] at f ⊢
    omega
   split at h
   ·obtain ⟨t,j,a,d⟩:=Yh h
    cases d
    have f:=(Zdl [102,97,108,115,101] (by decide)).2.len a
    simp only [wV,nsW,pw,Ays,Aqj] at f ⊢
    omega
   split at h
   ·obtain ⟨t,j,a,d⟩:=Yh h
    cases d
    have f:=(Zdl [116,114,117,101] (by decide)).2.len a
    simp only [wV,nsW,pw,Ays,Aqj] at f ⊢
    omega
   split at h
   ·obtain ⟨t,j,a,d⟩:=Yh h
    cases d
    have f:=Zyy.len a
    have hu:=Zt4 (Zuy a)
    simp only [wV,nsW,pw,Aqj] at f hu ⊢
    omega
   ·cases h
theorem Zxt:∀ (d:Nat) (l:BL) (v:JV) (r:BL),Y2 d l = .ok v r->wV v+16*r.length<=16*l.length
  | 0,l,v,r,h=>Zt3 (op:=fun _ l=>ZaW 23 l) (fun b c l v r h=>by cases h) l v r h
  | d+1,l,v,r,h=>by
    refine Zt3 (op:=Zqi (Y2 d)) (fun b c l v r h=>?_) l v r h
    obtain ⟨p,q,e,f⟩:=Yh h
    cases f
    have g:=ZbI l
    have a:=ZCp (Zxt d) b _ _ _ _ _ _ e
    have i:(X9 (c::l).tail).length<=l.length:=g
    simp only [wV,nsW,pw,Ays,Aqj] at a ⊢
    omega
theorem ZEB {l:BL} {v:JV} (h:Zdo l = .ok v):wV v<=1048576:=by
  by_cases b:l.length<=65536
  ·rw [Zi7 b] at h
   cases a:Y2 64 l with
   | err k q=>rw [a] at h;cases h
   | ok w r =>
     rw [a] at h
     simp only at h
     have:=Zxt 64 l w r a
     split at h
     ·cases h;omega
     ·cases h
  ·rw [Zi8 (by omega)] at h;cases h
end Go.Js
namespace Go.Proofs.YtpjbjdheeemdiaaGreatDoor
open Go Go.Fw Go.Js Go.ChangeShapes Go.WideShapes
theorem Zkm {h:Zc} {x:Sl} {n:Nat} {vs:List Value} (c:Row h x n vs) (k:0<n):inS (fun b=>b<sz h) x:=by
  intro d b a
  rcases c.at_ with g | ⟨i,o,hp,j⟩
  ·exact absurd g d
  ·have:i=b:=by unfold Sl.blk at a;rw [hp] at a;simpa using a
   subst this
   refine ZCv j fun e=>?_
   have f:=c.len
   rw [e] at f
   have:x.len*n≠0:=Nat.mul_ne_zero d (by omega)
   exact this (by rw [<- f];rfl)
theorem Zy6 {α:Type} {l:List α} {i:Nat} {x:α} (h:l[i]?=some x):i<l.length:=(Azl.1 h).1
theorem Zfr {α:Type} {f:α->List Value} {n:Nat} (b:∀ a,(f a).length=n):∀ l:List α,(l.flatMap f).length=l.length*n
  | []=>by simp
  | a::l=>by rw [Azd,Awe,b,Zfr b l,Aqj,Awx];omega
theorem Znh {α:Type} {f:α->List Value} {n:Nat} (b:∀ a,(f a).length=n):∀ (l:List α) (i m:Nat) (a:α),l[i]?=some a->m<n->(l.flatMap f)[i*n+m]?=(f a)[m]?
  | [],i,m,a,h,_=>by simp at h
  | x::l,0,m,a,h,hm=>by
    simp at h
    subst h
    rw [Azd,Aqs,Awb,Awu (by rw [b];exact hm)]
  | x::l,i+1,m,a,h,hm=>by
    rw [Azd,Aww (by rw [b,Awx];omega),b,show (i+1)*n+m - n=i*n+m by rw [Awx];omega]
    exact Znh b l i m a (by simpa using h) hm
theorem ZxU {α:Type} (f:α->Nat):∀ l:List α,(l.map fun x=>16*f x).sum=16*(l.map f).sum
  | []=>rfl
  | x::l=>by rw [Awo,Azp,ZxU f l,Awo,Azp];omega
theorem ZcB {α:Type} {f g:α->Nat}:∀ {l:List α},(∀ x∈l,f x<=g x)->(l.map f).sum<=(l.map g).sum
  | [],_=>Aqo _
  | x::l,h=>by
    have:=h x (by simp)
    have:=ZcB (l:=l) fun y a=>h y (Aws _ a)
    simp only [Awo,Azp];omega
theorem Zvg {H:Type} {d:DataW H}:∀ {l:List (DataW H)},d∈l->Rows.uptoBulk d<=Rows.uptoBulkAll l
  | [],h=>by cases h
  | x::l,h=>by
    simp only [Rows.uptoBulkAll]
    rcases Awr.1 h with rfl | h
    ·omega
    ·have:=Zvg h;omega
theorem Zvf {H:Type} (D:Nat->DataW H):∀ l:List Nat,Rows.uptoBulkAll (l.map D)=(l.map fun i=>Rows.uptoBulk (D i)).sum
  | []=>rfl
  | x::l=>by simp only [Awo,Rows.uptoBulkAll,Azp,Zvf D l]
section
variable {H:Type} {enc:TypeId × Value->H} {P:Program} {w:World} {base:Nat} {spare:Nat->Bool} {held:Bool}
theorem ZFe {fs:Array Field} {l:List (TypeId × Nat)} (a:fs.toList.map (fun f=>(f.type,f.offset))=l) {i:Nat} {p:TypeId × Nat} (hp:l[i]?=some p):∃ f,fs[i]?=some f/\f.type=p.1/\f.offset=p.2:=by
  subst a
  rw [Awz,Ayc] at hp
  obtain ⟨f,b,rfl⟩:=hp
  exact ⟨f,by simpa using b,rfl,rfl⟩
theorem Zh8 {α:Type} [Inhabited α] {g:α->List Value} {n:Nat} (q:∀ a,(g a).length=n) (s:0<n) {Pa:α->Prop} {μ:α->Nat} {u t:TypeId} {fuel N:Nat} {a:Option Addr} {len cap:Nat} {x:DataW H × List MemPlace} (hu:P.underlying u=some (.slice t)) (M:P.cellsOf t=n)
    (elem:∀ {fuel:Nat} {cs:List Value} {y:DataW H × List MemPlace},Rows.uptoBulk y.1<N->DataW.trod enc P w base spare held fuel t cs=some y->∃ a:α,cs=g a/\Pa a/\μ a<=16*Rows.uptoBulk y.1)
    (O:Rows.uptoBulk x.1<=N) (h:DataW.trod enc P w base spare held fuel u [.slice a len cap]=some x):∃ l:List α,(Row w.heap ⟨a,len,cap⟩ n (l.flatMap g)/\∀ a,a∈l->Pa a)/\(l.map μ).sum+16<=16*Rows.uptoBulk x.1:=by
  rcases Deep.open_slice hu h with ⟨b,rfl⟩ | ⟨e,F,G,m,X,D,Y,b,_,Q,hm,A,rfl,R⟩
  ·simp at b
   obtain ⟨rfl,rfl,rfl⟩:=b
   exact ⟨[],⟨Row.nil _ n,by simp⟩,by simp [Rows.uptoBulk]⟩
  ·simp at b
   obtain ⟨rfl,rfl,rfl⟩:=b
   have hlen:len<=m:=by rw [A];split<;>omega
   have j:cap<9223372036854775808:=ZyK hm
   have each:∀ i,i<len->∃ a:α,w.cells? base (e.add (i*n)) n=some (g a)/\Pa a/\μ a<=16*Rows.uptoBulk (D i):=by
     intro i c
     obtain ⟨S,z,T⟩:=R i (by omega)
     rw [M] at z
     obtain ⟨r,rfl,hp,U⟩:=elem (by
       have:=Zvg (d:=D i) (l:=(List.range len).map D) (Ayw.2 ⟨i,by simpa using c,rfl⟩)
       simp only [Rows.uptoBulk] at O ⊢
       omega) T
     exact ⟨r,z,hp,U⟩
   obtain ⟨f,B⟩:=Deep.choose_lt each
   have cell:∀ i,i<len->∀ k,k<n->w.cell? ((e.add (i*n)).add k)=(g (f i))[k]?:=fun i c k C=>(World.cells?_some (B i c).1).2.2 k C
   refine ⟨(List.range len).map f,⟨⟨by rw [Zfr q];simp,Q,j,?_⟩,fun a V=>?_⟩,?_⟩
   ·rcases Aqw len with o | o
    ·exact .inl o
    ·right
     have p:e=⟨e.block,e.off,none⟩:=by
       have o:=cell 0 (by omega) 0 s
       have W:(e.add (0*n)).add 0=e:=by rw [Aqs];rfl
       rw [W,Ayb (by rw [q];exact s)] at o
       exact ZxX o
     refine ⟨e.block,e.off,by rw [<- p],ZuR fun k v I=>?_⟩
     have C:k<len*n:=by
       have:=Zy6 I
       rw [Zfr q] at this
       simpa using this
     have E:=Nat.div_add_mod k n
     have c:k / n<len:=(Nat.div_lt_iff_lt_mul s).2 C
     have J:k % n<n:=Nat.mod_lt _ s
     have K:=Znh q ((List.range len).map f) (k / n) (k % n) (f (k / n)) (by rw [Awz,List.getElem?_range c];rfl) J
     have L:k / n*n+k % n=k:=by rw [Azf];exact E
     rw [L,I] at K
     have:=cell (k / n) c (k % n) J
     rw [p,Zvn,Zvn,Zj3,<- K] at this
     rw [<- L,<- Aqh]
     exact this
   ·obtain ⟨i,c,rfl⟩:=Ayw.1 V
    exact (B i (by simpa using c)).2.1
   ·have z:((List.range len).map fun i=>μ (f i)).sum<=((List.range len).map fun i=>16*Rows.uptoBulk (D i)).sum:=ZcB fun i c=>(B i (by simpa using c)).2.2
    rw [ZxU] at z
    simp only [Rows.uptoBulk,Azq,Zvf]
    have:((List.range len).map (μ ∘ f)).sum=((List.range len).map fun i=>μ (f i)).sum:=rfl
    omega
end
def ZdC:List JV->JL
  | []=> .nil
  | v::l=> .cons v.k v.t v.ns v.sub (ZdC l)
theorem ZGC:∀ l:List JV,pw (ZdC l)=(l.map wV).sum
  | []=>rfl
  | v::l=>by simp only [ZdC,pw,Awo,Azp,ZGC l,wV]
theorem ZCh:∀ l:List BL,nsW l=(l.map fun n=>6*n.length+3).sum
  | []=>rfl
  | v::l=>by simp only [nsW,Awo,Azp,ZCh l]
section
variable {H:Type} {enc:TypeId × Value->H} {P:Program} {w:World} {base:Nat} {spare:Nat->Bool} {held:Bool}
theorem Zzi:∀ l:List BL,l.flatMap (fun n=>[sV n])=l.map sV
  | []=>rfl
  | a::l=>by rw [Azd,Zzi l];rfl
theorem Zp8 {a:Assume} {C:Checked} {os:Os} {f:FuncId} {fn:Func} {s:OpenSpec} {k:(H:Type)->List (DataW H)->Bool} (x:s.cond=some k) {F:Stop.Interp} {conds:List PathCond} {apart fresh handsOn again:Bool} {X:World->Array Value->Prop}
    (y:∀ (w w':World) (args:Array Value),w.heap=w'.heap->X w args->X w' args)
    (own:ownKnob C.prog.godebug=none) (started:os.Started) (c:C.prog.inits.idxOf? f=none) (m:C.prog.funcs[f]?=some fn)
    (witness:∃ (w:World) (tape:Tape) (i:Input),w.os=os/\(w.forCall tape i).Shaped C.prog/\i.vars=[]/\Input.okWide C.prog (w.forCall tape i) .any w.heap.size f i /\
      ((s.pre enc C.prog fn conds apart (w.forCall tape i).memory i.args/\X (w.forCall tape i).memory i.args)/\sizedMet enc C.prog fn s apart (w.forCall tape i).memory i.args)/\a.holds C.prog (lone (Frame.enter C.prog f i.args .normal) [] (w.forCall tape i)))
    (b:∀ (W:World) (base:Nat) (args:Array Value) (l gs:List (DataW H)) (before:List MemPlace),
      (∀ (j:Nat) t v,fn.params[j]?=some t->args[j]?=some v->Value.okWide C.prog W .any base t v) ->
      DataW.Whole enc C.prog fn.params.toList s.vars apart W args.toList l gs before->k H (l++gs)=true->X W args->W.ShapedOpen C.prog ->
      Calls C.prog f args W fun e u=>∃ v,e = .returned v/\(s.at F).post enc C.prog fn apart fresh handsOn again W args v u) :
    ReturnsInHanded a C os f .any (fun w args=>(s.pre enc C.prog fn conds apart w args/\X w args)/\sizedMet enc C.prog fn s apart w args) ((s.at F).post enc C.prog fn apart fresh handsOn again):=by
  refine returnsInHanded_of_calls own started c witness ?_
  intro w tape i _ n _ o d _
  obtain ⟨_,_,_,p,g,_,_,_,_,h⟩:=o
  have e:p=fn:=Option.some.inj (g.symm.trans m)
  subst e
  obtain ⟨⟨hp,z⟩,_⟩:=d
  obtain ⟨l,gs,before,hw,_,q⟩:=(OpenSpec.pre_some x conds apart _ _).1 hp
  have r:=DataW.Whole.of_heap (w':=w.forCall tape i) (by rfl) hw
  refine (b (w.forCall tape i) w.heap.size i.args l gs before h r q (y _ _ _ (by rfl) z) n).mono fun e u ⟨v,he,hp⟩=>?_
  subst he
  exact ChangeSpec.post_blind hp
theorem Zpz {C:Checked} {os:Os} {f:FuncId} {fn:Func} {s:OpenSpec} {k:(H:Type)->List (DataW H)->Bool} (j:s.cond=some k) {conds:List PathCond} {apart:Bool} {X:World->Array Value->Prop} (modest:Bool) (b:World) (args:Array Value) (fuel:Nat) (d:b.os=os)
    (e:(b.forCall (fun _ _=>0) ⟨#[],args,[]⟩).Shaped C.prog)
    (c:Input.okWideB C.prog (b.forCall (fun _ _=>0) ⟨#[],args,[]⟩) f ⟨#[],args,[]⟩=true)
    {x:List (DataW H) × List (DataW H) × List MemPlace} (l:DataW.whole enc C.prog (b.forCall (fun _ _=>0) ⟨#[],args,[]⟩).memory fn.params.toList s.vars apart args.toList fuel=some x)
    (a:conds.all (PathCond.test C.prog ⟨fn.params.toList,x.1,s.bare.plain.varTypes C.prog,x.2.1⟩)=true) (g:k H (x.1++x.2.1)=true)
    (h:s.bare.sizedB enc C.prog fn apart (b.forCall (fun _ _=>0) ⟨#[],args,[]⟩).memory args fuel=true)
    (m:X (b.forCall (fun _ _=>0) ⟨#[],args,[]⟩).memory args) :
    ∃ (w:World) (tape:Tape) (i:Input),w.os=os/\(w.forCall tape i).Shaped C.prog/\i.vars=[]/\Input.okWide C.prog (w.forCall tape i) .any w.heap.size f i /\
      ((s.pre enc C.prog fn conds apart (w.forCall tape i).memory i.args/\X (w.forCall tape i).memory i.args)/\sizedMet enc C.prog fn s apart (w.forCall tape i).memory i.args)/\({ modest:=modest }:Assume).holds C.prog (lone (Frame.enter C.prog f i.args .normal) [] (w.forCall tape i)) :=
  ⟨b,fun _ _=>0,⟨#[],args,[]⟩,d,e,(Input.okWide_of_okWideB (base:=0) c).1,(Input.okWide_of_okWideB c).2,
    ⟨⟨(OpenSpec.pre_some j conds apart _ _).2 ⟨x.1,x.2.1,x.2.2,DataW.Whole_of_whole l,a,g⟩,m⟩,sizedMet_of_sizedB h⟩,by
    simp only [Assume.holds]
    exact ⟨by simp,by simp,fun _=>Modest.zero,by simp,by simp⟩⟩
end
end Go.Proofs.YtpjbjdheeemdiaaGreatDoor
