/- From a law's model to the call: it returns true, and what was there is as it was. -/
import Derived.Below
import Derived.Lib.ValidLaws
import Derived.Lib.RuneCount
import Derived.Test.YtpjbjdheeemdiaaGreatDoorPa8
set_option linter.unusedVariables false
set_option linter.unusedSimpArgs false
namespace Go.Fw
open Go Go.RowKit
theorem ZyU {P:Program} {f:FuncId} {s:Zd} (ok:Zk P f s) (t:XB s.args) (w:World) {args:Array Value} (a:((XB.evs s.args t).map EV.v).toArray=args)
    (h:s.sem t (fun r h'=>ZCd s.res r = .bool true/\Ext w.heap h') (fun _ _=>False) w.heap):Calls P f args w fun e w'=>e = .returned (.bool true)/\Below w.heap.size w w':=by
  rw [<- a]
  refine (ok.calls t _ _ w h).mono ?_
  rintro e w' (⟨r,rfl,b,d,c⟩ | ⟨v,rfl,b,g⟩)
  ·exact ⟨by rw [d],b.2.1,b.1,b.2.2,c.size,c.old⟩
  ·exact g.elim
end Go.Fw
namespace Go.Fw
open Go
def obj (h:Zc) (b:Nat):Option Obj:=h[b]?
def sz (h:Zc):Nat:=h.size
theorem ZxR {h:Zc} {x:Obj}:sz (h.push x)=sz h+1:=by unfold sz;simp
theorem ZB5 {h:Zc} {b o:Nat} {v:Value}:sz (h.put b o v)=sz h:=by unfold sz;exact ZlQ
def Zuv (o:Nat) (v:Value):Option Obj->Option Obj
  | some (.cells c e f)=>some (.cells (c.setIfInBounds o v) e f)
  | x=>x
theorem Ziz {o:Nat} {v:Value} {l:List Value} {e:TypeId} {f:Nat × Nat}:Zuv o v (some (.cells l.toArray e f))=some (.cells (l.set o v).toArray e f):=by
  simp [Zuv]
theorem ZmO {h:Zc} {b o k:Nat} {v:Value}:obj (h.put b o v) k=if k=b then Zuv o v (obj h k) else obj h k:=by
  unfold obj Zc.put
  rw [Aqi]
  by_cases a:b=k
  ·subst a
   rw [if_pos rfl,if_pos rfl]
   cases h[b]? with
   | none=>rfl
   | some x=>cases x<;>rfl
  ·rw [if_neg a,if_neg (Ne.symm a)]
def ZbK (o:Nat):Option Obj->Option Value
  | some (.cells c _ _)=>c[o]?
  | _=>none
def Zql (o:Nat):Option Obj->Bool
  | some (.cells c _ f)=>decide (o<c.size)&&(f.1 ==0&&f.2 ==0)
  | _=>false
theorem Zqm {o:Nat} {l:List Value} {e:TypeId} {f:Nat × Nat}:ZbK o (some (.cells l.toArray e f))=l[o]?:=by simp [ZbK]
theorem Zai {h:Zc} {b o:Nat}:h.cell b o=ZbK o (obj h b):=by unfold Zc.cell obj ZbK;rfl
theorem Zzc {h:Zc} {b o:Nat} (a:Zql o (obj h b)=true):(∃ u,h.cell b o=some u)/\h.froz b o=false:=by
  unfold Zql at a
  split at a
  ·rename_i c e f j
   simp only [Awn,decide_eq_true_eq,beq_iff_eq] at a
   obtain ⟨k,g,i⟩:=a
   have d:h[b]?=some (.cells c e f):=j
   refine ⟨⟨c[o],by unfold Zc.cell;rw [d];simp [k]⟩,?_⟩
   unfold Zc.froz
   rw [d]
   obtain ⟨l,m⟩:=f
   simp only at g i
   subst g i
   simp
  ·cases a
theorem ZGX {h:Zc} {b o:Nat} {k:IntKind} {n:Int} {K:Int->Prop} (c:ZbK o (obj h b)=some (.int k n)):ldI h b o k K=K n :=
  propext ⟨fun ⟨m,e,a⟩=>(by rw [Zai,c] at e;cases e;exact a),fun a=>⟨n,by rw [Zai,c],a⟩⟩
theorem ZGU {h:Zc} {b o:Nat} {n:ByteArray} {K:ByteArray->Prop} (c:ZbK o (obj h b)=some (.string n)):ldS h b o K=K n :=
  propext ⟨fun ⟨m,e,a⟩=>(by rw [Zai,c] at e;cases e;exact a),fun a=>⟨n,by rw [Zai,c],a⟩⟩
theorem ZGV {h:Zc} {b o:Nat} {n:Option Addr} {K:Option Addr->Prop} (c:ZbK o (obj h b)=some (.pointer n)):ldP h b o K=K n :=
  propext ⟨fun ⟨m,e,a⟩=>(by rw [Zai,c] at e;cases e;exact a),fun a=>⟨n,by rw [Zai,c],a⟩⟩
theorem ZGT {h:Zc} {b o:Nat} {n:Value} {K:Value->Prop} (c:ZbK o (obj h b)=some n):ldV h b o K=K n :=
  propext ⟨fun ⟨m,e,a⟩=>(by rw [Zai,c] at e;cases e;exact a),fun a=>⟨n,by rw [Zai,c],a⟩⟩
theorem ZGW {h:Zc} {b o:Nat} {p:Option Addr} {l c:Nat} {K:Sl->Prop} (d:ZbK o (obj h b)=some (.slice p l c)):ldL h b o K=K ⟨p,l,c⟩ :=
  propext ⟨fun ⟨m,e,a⟩=>(by rw [Zai,d] at e;cases e;exact a),fun a=>⟨⟨p,l,c⟩,by rw [Zai,d],a⟩⟩
theorem ZuV {h:Zc} {b:Nat}:∀ (n o:Nat),(∀ i,i<n->Zql (o+i) (obj h b)=true)->h.free b o n
  | 0,_,_=>trivial
  | n+1,o,a=>⟨Zzc (by have:=a 0 (by omega);simpa using this),ZuV n (o+1) fun i c=>by have:=a (i+1) (by omega);rw [show o+1+i=o+(i+1) from by omega];exact this⟩
def Zzd (o n:Nat):Option Obj->Bool
  | some (.cells c _ f)=>decide (o+n<=c.size)&&(f.1 ==0&&f.2 ==0)
  | _=>false
theorem Zgj {o n:Nat} {l:List Value} {e:TypeId}:Zzd o n (some (.cells l.toArray e (0,0)))=decide (o+n<=l.length):=by simp [Zzd]
theorem ZBp {h:Zc} {b o n:Nat} (a:Zzd o n (obj h b)=true):h.free b o n:=by
  refine ZuV n o fun i g=>?_
  unfold Zzd at a
  split at a
  ·rename_i c e f d
   rw [d]
   simp only [Awn,decide_eq_true_eq] at a
   simp only [Zql,Awn,decide_eq_true_eq]
   exact ⟨by omega,a.2⟩
  ·cases a
theorem Zro {h:Zc} {b o:Nat} {vs:List Value} {K:Zc->Prop} (c:Zzd o vs.length (obj h b)=true) (d:vs.all Ye=true):sts h b o vs K=K (h.puts b o vs) :=
  propext ⟨fun a=>a.2.2,fun a=>⟨ZBp c,d,a⟩⟩
theorem Zio {h:Zc} {b o:Nat} {vs:List Value}:sz (h.puts b o vs)=sz h:=Zkp
def ZmP:Nat->List Value->Option Obj->Option Obj
  | _,[],x=>x
  | o,v::vs,x=>ZmP (o+1) vs (Zuv o v x)
def Zbi:Nat->List Value->List Value->List Value
  | _,[],l=>l
  | o,v::vs,l=>Zbi (o+1) vs (l.set o v)
theorem ZbJ {e:TypeId} {f:Nat × Nat}:∀ {vs:List Value} {o:Nat} {l:List Value},ZmP o vs (some (.cells l.toArray e f))=some (.cells (Zbi o vs l).toArray e f)
  | [],_,_=>rfl
  | v::vs,o,l=>by unfold ZmP Zbi;rw [Ziz,ZbJ]
theorem Zec {b:Nat}:∀ {vs:List Value} {h:Zc} {o k:Nat},obj (h.puts b o vs) k=if k=b then ZmP o vs (obj h k) else obj h k
  | [],h,o,k=>by
    unfold Zc.puts ZmP
    split<;>rfl
  | v::vs,h,o,k=>by
    unfold Zc.puts
    rw [Zec,ZmO]
    by_cases a:k=b
    ·rw [if_pos a,if_pos a,if_pos a];rfl
    ·rw [if_neg a,if_neg a,if_neg a]
theorem Zm7 {b o l size:Nat} {i:Int} {n:Nat} {K:Nat->Nat->Prop} (a:i=(n:Int)) (d:n<l) (c:K b (o+n*size)):Zdb (some ⟨b,o,none⟩) l i size K:=by
  subst a
  exact ⟨b,o,rfl,by omega,by omega,by simpa using c⟩
theorem ZGw {s t:Sl}:(slV s=slV t)=(s=t):=by
  refine propext ⟨fun h=>?_,fun h=>by rw [h]⟩
  cases s;cases t
  unfold slV at h
  injection h with a b c
  subst a b c
  rfl
theorem ZgP {k:IntKind} {n:Int}:Ye (.int k n)=true:=by simp [Ye]
theorem ZrG {b:Option Addr} {l c:Nat}:Ye (.slice b l c)=true:=by simp [Ye]
theorem Zu {h h':Zc} (e:Ext h h') {b:Nat} (a:b<sz h):obj h' b=obj h b:=e.old b a
theorem Zt {S:Nat->Prop} {h h':Zc} (e:Upd S h h') {b:Nat} (a:b<sz h) (c:¬ S b):obj h' b=obj h b:=e.old b a c
theorem ZAy {S:Nat->Prop} {h a:Zc} {b o:Nat} {vs:List Value} (he:Upd S h a) (d:sz h<=b\/S b):Upd S h (a.puts b o vs) :=
  ⟨by rw [Zkp];exact he.size,fun k f c=>(Zk1 fun e=>by subst e;exact d.elim (fun g=>by unfold sz at g;omega) c).trans (he.old k f c)⟩
theorem ZaK {h:Zc} {b:Nat} {x:Obj} (a:obj h b=some x):b<sz h:=by
  unfold obj at a
  rcases Aqd b h.size with c | c
  ·exact c
  ·rw [Aqe c] at a;cases a
theorem Zn {h h':Zc} {b:Nat} {x:Obj} (a:obj h b=some x) (e:Ext h h'):obj h' b=some x:=(Zu e (ZaK a)).trans a
theorem ZG {S:Nat->Prop} {h h':Zc} {b:Nat} {x:Obj} (a:obj h b=some x) (e:Upd S h h') (c:¬ S b):obj h' b=some x:=(Zt e (ZaK a) c).trans a
theorem Ext.updS {h a b:Zc} {S:Nat->Prop} (e:Ext h a) (u:Upd S a b) (c:∀ k,S k->sz h<=k):Ext h b:=e.then u fun k d=>c k d
end Go.Fw
namespace Go.Js
open Go
abbrev BL:=List UInt8
inductive JL where
  | nil
  | cons (k:Nat) (t:BL) (ns:List BL) (sub rest:JL)
deriving DecidableEq
structure JV where
  k:Nat
  t:BL
  ns:List BL
  sub:JL
deriving DecidableEq
namespace JL
def len:JL->Nat
  | nil=>0
  | cons _ _ _ _ r=>r.len+1
def snoc (v:JV):JL->JL
  | nil=>cons v.k v.t v.ns v.sub nil
  | cons k t ns s r=>cons k t ns s (r.snoc v)
def isNil:JL->Bool
  | nil=>true
  | _=>false
theorem len_snoc (v:JV):∀ l:JL,(l.snoc v).len=l.len+1
  | nil=>rfl
  | cons _ _ _ _ r=>by simp [snoc,len,len_snoc v r]
theorem ZEP {l:JL}:l.len=0↔l=nil:=by cases l<;>simp [len]
end JL
inductive Out (α:Type) where
  | ok (a:α) (r:BL)
  | err (e:Nat) (r:BL)
def Out.bind {α β:Type}:Out α->(α->BL->Out β)->Out β
  | .ok a r,f=>f a r
  | .err e r,_=> .err e r
@[simp] theorem Out.bind_ok {α β:Type} (a:α) (r:BL) (f:α->BL->Out β):(Out.ok a r).bind f=f a r:=rfl
@[simp] theorem Out.bind_err {α β:Type} (e:Nat) (r:BL) (f:α->BL->Out β):(Out.err e r:Out α).bind f = .err e r:=rfl
def ZaW {α:Type} (e:Nat):BL->Out α
  | []=> .err 24 []
  | c::l=> .err e (c::l)
def Xw (c:UInt8):Bool:=c ==32||c ==9||c ==10||c ==13
def ZbS (c:UInt8):Bool:=decide (48<=c.toNat)&&decide (c.toNat<=57)
def X9 (l:BL):BL:=l.dropWhile Xw
def Zgr:BL->BL->Out Unit
  | [],l=> .ok () l
  | c::w,d::l=>if d=c then Zgr w l else .err 20 (d::l)
  | _::_,[]=> .err 24 []
def Xp:BL->Out Unit
  | c::l=>if ZbS c then .ok () (l.dropWhile ZbS) else .err 21 (c::l)
  | []=> .err 24 []
def Zee:BL->BL
  | c::l=>if c=45 then l else c::l
  | []=>[]
def Zkh:BL->BL
  | c::l=>if c=43\/c=45 then l else c::l
  | []=>[]
def Zda:BL->Out Unit
  | c::l=>if ZbS c then .err 21 (c::l) else .ok () (c::l)
  | []=> .ok () []
def ZlW:BL->Out Unit
  | c::l=>if c=48 then Zda l else Xp (c::l)
  | []=> .err 24 []
def ZiL:BL->Out Unit
  | c::l=>if c=46 then Xp l else .ok () (c::l)
  | []=> .ok () []
def Znl:BL->Out Unit
  | c::l=>if c=101\/c=69 then Xp (Zkh l) else .ok () (c::l)
  | []=> .ok () []
def Zih (l:BL):Out Unit:=(ZlW (Zee l)).bind fun _ a=>(ZiL a).bind fun _ b=>Znl b
def upto (l r:BL):BL:=l.take (l.length - r.length)
def ZlG (c:UInt8):Option Nat :=
  if 48<=c.toNat/\c.toNat<=57 then some (c.toNat - 48)
  else if 97<=c.toNat/\c.toNat<=102 then some (c.toNat - 87)
  else if 65<=c.toNat/\c.toNat<=70 then some (c.toNat - 55)
  else none
def Zji:Nat->Nat->BL->Out Nat
  | 0,n,l=> .ok n l
  | _+1,_,[]=> .err 24 []
  | k+1,n,c::l=>match ZlG c with
    | some d=>Zji k (n*16+d) l
    | none=> .err 22 (c::l)
def Zhc (n:Nat):BL :=
  if n<128 then [UInt8.ofNat n]
  else if n<2048 then [UInt8.ofNat (192+n / 64),UInt8.ofNat (128+n % 64)]
  else if n<65536 then [UInt8.ofNat (224+n / 4096),UInt8.ofNat (128+n / 64 % 64),UInt8.ofNat (128+n % 64)]
  else [UInt8.ofNat (240+n / 262144),UInt8.ofNat (128+n / 4096 % 64),UInt8.ofNat (128+n / 64 % 64),UInt8.ofNat (128+n % 64)]
def ZlH (n:Nat):Nat:=if 55296<=n/\n<57344 then 65533 else n
def ZfD (c:UInt8):Option UInt8 :=
  if c=34 then some 34 else if c=92 then some 92 else if c=47 then some 47 else if c=98 then some 8 else if c=102 then some 12 else if c=110 then some 10 else if c=114 then some 13 else if c=116 then some 9 else none
def ZdT:BL->Option BL
  | a::b::l=>if a=92/\b=117 then some l else none
  | _=>none
def ZGn (l:BL):Out BL:=(Zji 4 0 l).bind fun n a =>
  match (if 55296<=n/\n<56320 then ZdT a else none) with
  | some b=>(Zji 4 0 b).bind fun m c=>if 56320<=m/\m<57344 then .ok (Zhc (65536+(n - 55296)*1024+(m - 56320))) c else .ok (Zhc (ZlH n)) a
  | none=> .ok (Zhc (ZlH n)) a
def ZtC:BL->Out BL
  | []=> .err 24 []
  | c::l=>match ZfD c with
    | some m=> .ok [m] l
    | none=>if c=117 then ZGn l else .err 22 (c::l)
def Zub (c:Nat):Nat × Nat × Nat :=
  if c<128 then (1,0,0)
  else if 194<=c/\c<=223 then (2,128,191)
  else if c=224 then (3,160,191)
  else if c=237 then (3,128,159)
  else if 225<=c/\c<=239 then (3,128,191)
  else if c=240 then (4,144,191)
  else if 241<=c/\c<=243 then (4,128,191)
  else if c=244 then (4,128,143)
  else (0,0,0)
def Zft:Nat->Nat->Nat->BL->Out Unit
  | 0,_,_,l=> .ok () l
  | _+1,_,_,[]=> .err 24 []
  | n+1,a,b,d::l=>if a<=d.toNat/\d.toNat<=b then Zft n 128 191 l else .err 22 (d::l)
def Zcx:BL->Out Unit
  | []=> .err 24 []
  | c::l=>if (Zub c.toNat).1=0 then .err 22 (c::l) else Zft ((Zub c.toNat).1 - 1) (Zub c.toNat).2.1 (Zub c.toNat).2.2 l
def Zjy:Nat->BL->BL->Out BL
  | 0,_,_=> .err 24 []
  | _+1,_,[]=> .err 24 []
  | n+1,out,c::l =>
    if c.toNat<32 then .err 22 (c::l)
    else if c=34 then .ok out l
    else if c=92 then (ZtC l).bind fun o a=>Zjy n (out++o) a
    else if c.toNat<128 then Zjy n (out++[c]) l
    else (Zcx (c::l)).bind fun _ a=>Zjy n (out++upto (c::l) a) a
def ZnJ (l:BL):Out BL:=Zjy (l.length+1) [] l
def ZhL (l:BL):Out BL :=
  match X9 l with
  | c::a=>if c=34 then (ZnJ a).bind fun nm e=>match X9 e with
     | d::b=>if d=58 then .ok nm b else .err 20 (d::b)
     | []=> .err 24 []
    else .err 20 (c::a)
  | []=> .err 24 []
def Zb2 (b:BL->Out JV) (ob:Bool) (ns:List BL) (sub:JL) (l:BL):Out (List BL × JL) :=
  if ob then (ZhL l).bind fun nm c=>(b c).bind fun v a=> .ok (ns++[nm],sub.snoc v) (X9 a)
  else (b (X9 l)).bind fun v a=> .ok (ns,sub.snoc v) (X9 a)
def Zh4 (ob:Bool):UInt8:=if ob then 125 else 93
def Zie (c:UInt8):BL->Bool
  | d::_=>d ==c
  | []=>false
def Zf6 (a:BL->Out JV) (ob:Bool):Nat->List BL->JL->BL->Out (List BL × JL)
  | 0,_,_,_=> .err 24 []
  | m+1,ns,sub,l =>
    if Zie (Zh4 ob) l then .ok (ns,sub) l.tail
    else if sub.isNil then (Zb2 a ob ns sub l).bind fun p b=>Zf6 a ob m p.1 p.2 b
    else if Zie 44 l then (Zb2 a ob ns sub l.tail).bind fun p b=>Zf6 a ob m p.1 p.2 b
    else ZaW 20 l
def Zgx (op:Bool->BL->Out JV) (l:BL):Out JV :=
  match X9 l with
  | []=> .err 24 []
  | c::a =>
    if c=123 then op true (c::a)
    else if c=91 then op false (c::a)
    else if c=34 then (ZnJ a).bind fun t r=> .ok ⟨5,t,[],.nil⟩ r
    else if c=110 then (Zgr [110,117,108,108] (c::a)).bind fun _ r=> .ok ⟨1,[],[],.nil⟩ r
    else if c=102 then (Zgr [102,97,108,115,101] (c::a)).bind fun _ r=> .ok ⟨2,[],[],.nil⟩ r
    else if c=116 then (Zgr [116,114,117,101] (c::a)).bind fun _ r=> .ok ⟨3,[],[],.nil⟩ r
    else if c=45\/ZbS c then (Zih (c::a)).bind fun _ r=> .ok ⟨4,upto (c::a) r,[],.nil⟩ r
    else .err 20 (c::a)
def Zqi (a:BL->Out JV) (ob:Bool) (l:BL):Out JV :=
  (Zf6 a ob (l.length+1) [] .nil (X9 l.tail)).bind fun p r=> .ok ⟨if ob then 7 else 6,[],p.1,p.2⟩ r
def Y2:Nat->BL->Out JV
  | 0=>Zgx fun _ l=>ZaW 23 l
  | n+1=>Zgx (Zqi (Y2 n))
inductive Got where
  | ok (v:JV)
  | err (e:Nat) (at_:Nat)
def Zdo (l:BL):Got :=
  if 65536<l.length then .err 5 65536
  else match Y2 64 l with
    | .err e r=> .err e (l.length - r.length)
    | .ok v r=>match X9 r with
      | []=> .ok v
      | c::a=> .err 25 (l.length - (c::a).length)
theorem ZbH {c:UInt8} {l r:BL} (h:r <:+l):r <:+c::l:=h.trans (Aye _ _)
theorem Zrr (l:BL):X9 l <:+l:=Ayf _
theorem ZjZ {l r:BL} (h:Xp l = .ok () r):r <:+l:=by
  rcases l with _ | ⟨c,l⟩
  ·cases h
  ·dsimp only [Xp] at h
   split at h
   ·cases h;exact ZbH (Ayf _)
   ·cases h
theorem Zwg (l:BL):Zee l <:+l:=by
  rcases l with _ | ⟨c,l⟩
  ·exact Ayg _
  ·dsimp only [Zee]
   split
   ·exact Aye _ _
   ·exact Ayg _
theorem Zx0 (l:BL):Zkh l <:+l:=by
  rcases l with _ | ⟨c,l⟩
  ·exact Ayg _
  ·dsimp only [Zkh]
   split
   ·exact Aye _ _
   ·exact Ayg _
theorem ZBj {l r:BL} (h:ZlW l = .ok () r):r <:+l:=by
  rcases l with _ | ⟨c,l⟩
  ·cases h
  ·dsimp only [ZlW] at h
   split at h
   ·rcases l with _ | ⟨d,l⟩
    ·cases h;exact Aye _ _
    ·dsimp only [Zda] at h
     split at h
     ·cases h
     ·cases h;exact Aye _ _
   ·exact ZjZ h
theorem Zze {l r:BL} (h:ZiL l = .ok () r):r <:+l:=by
  rcases l with _ | ⟨c,l⟩
  ·cases h;exact Ayg _
  ·dsimp only [ZiL] at h
   split at h
   ·exact ZbH (ZjZ h)
   ·cases h;exact Ayg _
theorem ZBz {l r:BL} (h:Znl l = .ok () r):r <:+l:=by
  rcases l with _ | ⟨c,l⟩
  ·cases h;exact Ayg _
  ·dsimp only [Znl] at h
   split at h
   ·exact ZbH ((ZjZ h).trans (Zx0 _))
   ·cases h;exact Ayg _
theorem Yh {α β:Type} {x:Out α} {f:α->BL->Out β} {b:β} {r:BL} (h:x.bind f = .ok b r):∃ a l,x = .ok a l/\f a l = .ok b r:=by
  cases x with
  | ok a l=>exact ⟨a,l,rfl,h⟩
  | err e l=>cases h
theorem Zqn {l r:BL} (h:Zih l = .ok () r):∃ a b,ZlW (Zee l) = .ok () a/\ZiL a = .ok () b/\Znl b = .ok () r:=by
  obtain ⟨_,a,c,h⟩:=Yh h
  obtain ⟨_,b,d,h⟩:=Yh h
  exact ⟨a,b,c,d,h⟩
theorem Zuy {l r:BL} (h:Zih l = .ok () r):r <:+l:=by
  obtain ⟨d,e,a,b,c⟩:=Zqn h
  exact (ZBz c).trans ((Zze b).trans ((ZBj a).trans (Zwg l)))
end Go.Js
namespace Go.Proofs.YtpjbjdheeemdiaaGreatDoor
open Go Go.Fw Go.Js
theorem YZ {h:Zc} {cells:List Value} {t:TypeId} {K:Nat->Zc->Prop} (b:∀ a,a[h.size]?=some (.cells cells.toArray t (0,0))->Ext h a->a.size=h.size+1->K h.size a):newC h cells t K :=
  Zv8 (b _ Zi6 (Ext.push _ _) (by simp))
theorem Zo {b o:Nat} {K:Nat->Nat->Prop} (a:K b o):Ze (some ⟨b,o,none⟩) K:=⟨b,o,rfl,a⟩
theorem ZHl {h:Zc} {b:Nat} {x:Obj} (c:h[b]?=some x):b<h.size:=by
  rcases Aqd b h.size with a | a
  ·exact a
  ·rw [Aqe a] at c;cases c
theorem Zb {h:Zc} {b o:Nat} {l:List Value} {e:TypeId} {f:Nat × Nat} {v:Value} (a:obj h b=some (.cells l.toArray e f)) (c:l[o]?=some v):ZbK o (obj h b)=some v:=by rw [a,Zqm];exact c
theorem rI {h:Zc} {b o:Nat} {k:IntKind} {n:Int} {K:Int->Prop} (a:ZbK o (obj h b)=some (.int k n)) (c:K n):ldI h b o k K:=by rw [ZGX a];exact c
theorem rS {h:Zc} {b o:Nat} {n:ByteArray} {K:ByteArray->Prop} (a:ZbK o (obj h b)=some (.string n)) (c:K n):ldS h b o K:=by rw [ZGU a];exact c
theorem rP {h:Zc} {b o:Nat} {n:Option Addr} {K:Option Addr->Prop} (a:ZbK o (obj h b)=some (.pointer n)) (c:K n):ldP h b o K:=by rw [ZGV a];exact c
theorem rL {h:Zc} {b o:Nat} {s:Sl} {K:Sl->Prop} (a:ZbK o (obj h b)=some (slV s)) (c:K s):ldL h b o K:=by cases s;exact (ZGW a).mpr c
theorem Zk2 {h:Zc} {b o:Nat} {v:Value} {K:Zc->Prop} {l:List Value} {e:TypeId} (a:obj h b=some (.cells l.toArray e (0,0))) (ho:o<l.length) (c:Ye v=true)
    (d:∀ h',obj h' b=some (.cells (l.set o v).toArray e (0,0))->Upd (· = b) h h'->sz h'=sz h->K h'):st h b o v K:=by
  refine ⟨⟨l[o],by rw [Zli a];simp [ho]⟩,?_,c,?_⟩
  ·unfold Zc.froz;rw [show h[b]?=obj h b from rfl,a];simp
  ·refine d _ ?_ (Upd.put h b o v) ZlQ
   have:=ZrE (v:=v) (o:=o) a
   rw [show obj (h.put b o v) b=(h.put b o v)[b]? from rfl,this]
   simp
structure ZkE (s:ByteArray) (n:Nat) (l:BL):Prop where
  drop:s.data.toList.drop n=l
  len:n+l.length=s.size
theorem ZkE.head {s:ByteArray} {n:Nat} {c:UInt8} {l:BL} (h:ZkE s n (c::l)):s[n]?=some c:=by
  have a:s.data.toList[n]?=some c:=by
    have:=congrArg (fun x=>x[0]?) h.drop
    simp only [Aqg] at this
    simpa using this
  have b:n<s.size:=by have:=h.len;simp at this;omega
  rw [Axr] at a
  rw [getElem?_pos s n b]
  rw [getElem?_pos s.data n b] at a
  exact a
theorem ZkE.tail {s:ByteArray} {n:Nat} {c:UInt8} {l:BL} (h:ZkE s n (c::l)):ZkE s (n+1) l:=by
  refine ⟨?_,by have:=h.len;simp at this;omega⟩
  rw [show s.data.toList.drop (n+1)=(s.data.toList.drop n).drop 1 by rw [Axp],h.drop]
  rfl
theorem ZkE.dropK {s:ByteArray} {n:Nat} {l:BL} (h:ZkE s n l) {k:Nat} (a:k<=l.length):ZkE s (n+k) (l.drop k):=by
  refine ⟨?_,by have:=h.len;simp;omega⟩
  rw [<- h.drop,Axp]
theorem ZkE.start (s:ByteArray):ZkE s 0 s.data.toList:=⟨rfl,by simp⟩
theorem ZkE.extract {s:ByteArray} {n m:Nat} {l r:BL} (h:ZkE s n l) (h':ZkE s m r) (a:n<=m):s.extract n m=Zj (upto l r):=by
  have e:m - n=l.length - r.length:=by have:=h.len;have:=h'.len;omega
  have hm:m<=s.size:=by have:=h'.len;omega
  unfold upto
  rw [<- e,<- h.drop]
  have:(s.extract n m).data.toList=(s.data.toList.drop n).take (m - n):=by
    simp [ByteArray.data_extract]
  rcases b:s.extract n m with ⟨⟨x⟩⟩
  rw [b] at this
  simp only at this
  rw [this]
def Rd (h:Zc) (R:Nat) (s:ByteArray) (l:BL):Prop:=s.size<=65536/\∃ n:Nat,obj h R=some (.cells [.string s,.int .i64 n].toArray 163 (0,0))/\ZkE s n l
abbrev At (R:Nat):Option Addr:=some ⟨R,0,none⟩
def Zgw (e:Nat) (n:Nat):Value:= .iface 160 (.agg #[.int .i64 e,.int .i64 n])
theorem Rd.congr {h h':Zc} {R:Nat} {s:ByteArray} {l:BL} (d:Rd h R s l) (e:obj h' R=obj h R):Rd h' R s l:=by
  obtain ⟨a,n,b,c⟩:=d
  exact ⟨a,n,e.trans b,c⟩
theorem Rd.lt {h:Zc} {R:Nat} {s:ByteArray} {l:BL} (a:Rd h R s l):R<sz h:=by
  obtain ⟨_,n,b,_⟩:=a
  exact ZaK b
theorem Rd.upd {S:Nat->Prop} {h h':Zc} {R:Nat} {s:ByteArray} {l:BL} (a:Rd h R s l) (u:Upd S h h') (b:¬ S R):Rd h' R s l:=a.congr (Zt u a.lt b)
theorem Rd.ext {h h':Zc} {R:Nat} {s:ByteArray} {l:BL} (a:Rd h R s l) (u:Ext h h'):Rd h' R s l:=a.congr (Zu u a.lt)
theorem Rd.len {h:Zc} {R:Nat} {s:ByteArray} {l:BL} (d:Rd h R s l):l.length<=s.size/\s.size<=65536:=by
  obtain ⟨a,n,b,c⟩:=d
  have:=c.len
  omega
theorem Zjh {h:Zc} {R:Nat} {s:ByteArray} {l:BL} (a:Rd h R s l) {K:Int->Prop} (c:∀ n:Nat,ZkE s n l->K n):Ze (At R) fun b o=>ldI h b (o+1) .i64 K:=by
  obtain ⟨_,n,d,e⟩:=a
  exact Zo (rI (Zb d rfl) (c n e))
theorem Zun {h:Zc} {R:Nat} {s:ByteArray} {l:BL} (a:Rd h R s l) {K:ByteArray->Prop} (c:K s):Ze (At R) fun b o=>ldS h b o K:=by
  obtain ⟨_,n,d,e⟩:=a
  exact Zo (rS (Zb d rfl) c)
theorem Zuo {h:Zc} {R:Nat} {s:ByteArray} {l a:BL} (d:Rd h R s l) {m:Int} {n:Nat} (hm:m=n) (e:ZkE s n a) {K:HP} (f:∀ h',Rd h' R s a->Upd (· = R) h h'->sz h'=sz h->K h'):Ze (At R) fun b o=>st h b (o+1) (.int .i64 m) K:=by
  obtain ⟨g,k,i,j⟩:=d
  refine Zo (Zk2 i (by simp) ZgP fun h' c u z=>f h' ⟨g,n,?_,e⟩ u z)
  rw [c,hm];rfl
theorem ZdW {h:Zc} {R:Nat} {s:ByteArray} {c:UInt8} {l:BL} (a:Rd h R s (c::l)) {K:HP} (e:∀ h',Rd h' R s l->Upd (· = R) h h'->sz h'=sz h->K h') :
    Ze (At R) fun b o=>ldI h b (o+1) .i64 fun t=>Ze (At R) fun b o=>st h b (o+1) (.int .i64 (IntKind.wrap .i64 (t+1))) K:=by
  refine Zjh a fun n d=>?_
  have:=d.len
  have:=a.len
  refine Zuo a (n:=n+1) ?_ d.tail e
  rw [YA (by omega) (by omega)];rfl
theorem ZEz {h:Zc} {R:Nat} {s:ByteArray} {l:BL} (a:Rd h R s l) {k:Int} {m:Nat} (d:k=m) (hm:m<=l.length) {K:HP} (e:∀ h',Rd h' R s (l.drop m)->Upd (· = R) h h'->sz h'=sz h->K h') :
    Ze (At R) fun b o=>ldI h b (o+1) .i64 fun t=>Ze (At R) fun b o=>st h b (o+1) (.int .i64 (IntKind.wrap .i64 (t+k))) K:=by
  refine Zjh a fun n c=>?_
  have:=c.len
  have:=a.len
  refine Zuo a (n:=n+m) ?_ (c.dropK hm) e
  rw [YA (by omega) (by omega),d];rfl
theorem Zs9 {h:Zc} {R:Nat} {s:ByteArray} {l:BL} (a:Rd h R s l) {A B:Prop} (d:l≠[]->A) (f:l=[]->B) :
    Ze (At R) fun b o=>ldI h b (o+1) .i64 fun t=>Ze (At R) fun b o=>ldS h b o fun t5=>Zy (decide (t<(t5.size:Int))) A B:=by
  refine Zjh a fun n c=>Zun a (Zq (fun e=>d ?_) fun e=>f ?_)
  ·have:=c.len
   intro e;subst e;simp at this;omega
  ·have:=c.len
   exact Aqr (by omega)
theorem Zqb {h:Zc} {R:Nat} {s:ByteArray} {l:BL} (a:Rd h R s l) {A B:Prop} (d:l=[]->A) (f:l≠[]->B) :
    Ze (At R) fun b o=>ldI h b (o+1) .i64 fun t=>Ze (At R) fun b o=>ldS h b o fun t5=>Zy (decide (t>=(t5.size:Int))) A B:=by
  refine Zjh a fun n c=>Zun a (Zq (fun e=>d ?_) fun e=>f ?_)
  ·have:=c.len
   exact Aqr (by omega)
  ·have:=c.len
   intro e;subst e;simp at this;omega
def Zce:BL->Int
  | c::_=>c.toNat
  | []=>0
theorem Zao {h:Zc} {R:Nat} {s:ByteArray} {l:BL} (a:Rd h R s l) {K:Int->HP} (d:K (Zce l) h):Zx (At R) K h:=by
  unfold Zx Zes
  refine Za (Zs9 a (fun b=>?_) fun he=>Za ?_)
  ·obtain ⟨c,f,rfl⟩:=Ayh b
   refine Zun a (Zjh a fun n e=>⟨c,by omega,by rw [Aqu];exact e.head,Za d⟩)
  ·subst he;exact d
theorem ZGQ {h:Zc} {R:Nat} {s:ByteArray} {l:BL} (a:Rd h R s l) {K:Int × Unit->Prop} (b:K (Zce l,())):ZvX (ρ:=Int × Unit) (fun K h=>Zx (At R) (fun q h=>K (q,()) h) h) h K :=
  ⟨(Zce l,()),Zao a ⟨rfl,rfl⟩,b⟩
def OnE {α:Type} (h:Zc) (R:Nat) (s:ByteArray) (S:Nat->Prop) (res:Out α) (P:Value->HP):Prop:=∀ e r h',res = .err e r->Upd S h h'->P (Zgw e (s.size - r.length)) h'
def left (h:Zc) (R:Nat):Nat:=match obj h R with
  | some (.cells c _ _)=>(match c.toList with
    | [.string s,.int _ n]=>s.size - n.toNat
    | _=>0)
  | _=>0
theorem Rd.left {h:Zc} {R:Nat} {s:ByteArray} {l:BL} (a:Rd h R s l):left h R=l.length:=by
  obtain ⟨_,n,b,g⟩:=a
  unfold Go.Proofs.YtpjbjdheeemdiaaGreatDoor.left
  rw [b]
  have:=g.len
  simp
  omega
theorem Zzl {α:Type} {h:Zc} {R:Nat} {s:ByteArray} {l:BL} (a:Rd h R s l) {e:Nat} {n:Int} (d:n=((s.size - l.length:Nat):Int)) {K:HP} {P:Value->HP} (hp:∀ f r,(ZaW e l:Out α) = .err f r->r=l->P (Zgw f (s.size - r.length)) h):Zp (At R) (e:Int) n K P h:=by
  unfold Zp Zbb
  have i:=a.len
  refine Zun a (Zq (fun hd=>?_) fun hd=>?_)
  ·have:l=[]:=by
     refine Aqr ?_
     omega
   subst this
   have:=hp 24 [] rfl rfl
   exact Zun a this
  ·have b:l≠[]:=by intro e;subst e;simp at d;omega
   obtain ⟨c,g,rfl⟩:=Ayh b
   have:=hp e (c::g) rfl rfl
   subst d
   exact this
theorem ZbX {α:Type} {h:Zc} {R:Nat} {s:ByteArray} {l:BL} (a:Rd h R s l) {e:Nat} {K:HP} {P:Value->HP} {c:Int} (he:c=e) (hp:∀ d r,(ZaW e l:Out α) = .err d r->r=l->P (Zgw d (s.size - r.length)) h) :
    Ze (At R) fun b o=>ldI h b (o+1) .i64 fun t=>Zp (At R) c t K P h:=by
  subst he
  refine Zjh a fun n f=>Zzl (α:=α) a ?_ hp
  have:=f.len
  congr 1;omega
theorem Zm6 {s:ByteArray} {c:Int} {K:Int->HP} {h:Zc} (a:K (Lib.indexByte s.data.toList c.toNat.toUInt8) h):Xf s c K h:=a
theorem ZFK {p:UInt8->Prop} (h:∀ f:Fin 256,p ⟨⟨f⟩⟩):∀ c,p c:=fun ⟨⟨f⟩⟩=>h f
theorem Zvj (c:UInt8):(Lib.indexByte [32,9,10,13] c>=0)↔Xw c=true:=by
  revert c
  exact ZFK (by decide +kernel)
theorem ZeR {h:Zc} {R:Nat} {s:ByteArray} {l:BL} (o:Rd h R s l) {K:HP} (j:∀ h',Rd h' R s (X9 l)->Upd (· = R) h h'->sz h'=sz h->K h'):Z7 (At R) K h:=by
  unfold Z7 Zdi
  refine Zv (fun _ h'=>∃ b,Rd h' R s b/\X9 b=X9 l/\Upd (· = R) h h'/\sz h'=sz h) (fun _ h'=>left h' R) ⟨l,o,rfl,Upd.refl _ _,rfl⟩ ?_
  rintro ⟨⟩ k ⟨t,a,d,e,f⟩
  dsimp only
  refine Zs9 a (fun g=>?_) fun he=>?_
  ·obtain ⟨c,b,rfl⟩:=Ayh g
   refine Zun a (Zjh a fun n p=>⟨c,by omega,by rw [Aqu];exact p.head,?_⟩)
   refine ⟨(Lib.indexByte [32,9,10,13] c,()),⟨by simp,rfl⟩,Zq (fun i=>?_) fun i=>?_⟩
   ·refine ZdW a fun u m q z2=>⟨⟨b,m,?_,e.trans q,z2.trans f⟩,?_⟩
    ·rw [<- d]
     unfold X9
     rw [Ayi ((Zvj c).1 i)]
    ·rw [a.left,m.left];simp
   ·refine j k ?_ e f
    have:Xw c=false:=by
      cases r:Xw c
      ·rfl
      ·exact absurd ((Zvj c).2 r) i
    rw [<- d]
    unfold X9
    rw [Ayj (by simp [this])]
    exact a
  ·subst he
   refine j k ?_ e f
   rw [<- d]
   exact a
theorem ZbF {h:Zc} {b:Nat} {l:List Value} (e:obj h b=some (.cells l.toArray 33 (0,0))) (f:l.length=4) {k:Int} {t:ByteArray} {x y:Sl} {K:(Int × ByteArray × Sl × Sl × Unit)->HP}
    (g:∀ h',Upd (· = b) h h'->sz h'=sz h->K (k,t,x,y,()) h') :
    sts h b 0 [.int .u8 k,.string t,.slice x.ptr x.len x.cap,.slice y.ptr y.len y.cap] fun a =>
      ldI a b 0 .u8 fun t84=>ldS a b (0+1) fun t85=>ldL a b (0+2) fun t86=>ldL a b (0+3) fun t87=>K (t84,t85,t86,t87,()) a:=by
  obtain ⟨a0,c,a2,a3,rfl⟩:∃ a0 c a2 a3,l=[a0,c,a2,a3]:=by
    rcases l with _ | ⟨a0,_ | ⟨c,_ | ⟨a2,_ | ⟨a3,_ | ⟨a4,l⟩⟩⟩⟩⟩<;>simp at f
    exact ⟨a0,c,a2,a3,rfl⟩
  rw [Zro (by rw [e,Zgj];rfl) (by rfl)]
  have d:obj (h.puts b 0 [.int .u8 k,.string t,.slice x.ptr x.len x.cap,.slice y.ptr y.len y.cap]) b=some (.cells [.int .u8 k,.string t,.slice x.ptr x.len x.cap,.slice y.ptr y.len y.cap].toArray 33 (0,0)):=by
    rw [Zec,if_pos rfl,e,ZbJ];rfl
  refine rI (Zb d rfl) (rS (Zb d rfl) (rL (s:=x) (Zb d rfl) (rL (s:=y) (Zb d rfl) (g _ ?_ Zio))))
  exact ZAy (Upd.refl _ _) (.inr rfl)
theorem UT {S T:Nat->Prop} {a h h':Zc} (b:Upd S a h) (u:Upd T h h') (e:∀ k,T k->S k\/sz a<=k):Upd S a h' :=
  ⟨Aqp b.size u.size,fun k c d=>(u.old k (Aqq c b.size) fun t=>(e k t).elim d fun f=>by have:sz a=a.size:=rfl;omega).trans (b.old k c d)⟩
theorem UN {T:Nat->Prop} {h a h':Zc} (e:Ext h a) (u:Upd T a h'):Upd T h h':=UT (e.upd T) u fun _ t=> .inl t
theorem ZkP {c d:UInt8} (h:(c.toNat:Int)≠(d.toNat:Int)):c≠d:=fun e=>h (by rw [e])
theorem Zke {c d:UInt8} (h:(c.toNat:Int)=(d.toNat:Int)):c=d:=UInt8.toNat_inj.1 (by omega)
theorem Zar {a b:Int} {A B:Prop} (c:a≠b->A) (d:a=b->B):Zy (a !=b) A B:=⟨fun e=>c (by simpa using e),fun e=>d (by simpa using e)⟩
theorem Zag {a b:Int} {A B:Prop} (c:a=b->A) (d:a≠b->B):Zy (a ==b) A B:=⟨fun e=>c (by simpa using e),fun e=>d (by simpa using e)⟩
theorem Zl8 {h:Zc} {R:Nat} {s:ByteArray} {l:BL} (B:Rd h R s l) {w:ByteArray} {wl:BL} (hw:w.data.toList=wl) (T:w.size<=10) {k:Int} {K:(Int × ByteArray × Sl × Sl × Unit)->HP} {P:Value->HP}
    (z:∀ r h',Zgr wl l = .ok () r->Rd h' R s r->Upd (· = R) h h'->K (k,ByteArray.mk #[],⟨none,0,0⟩,⟨none,0,0⟩,()) h') (b:OnE h R s (· = R) (Zgr wl l) P):Za7 (At R) w k K P h:=by
  unfold Za7 Zep
  have U:=B.lt
  have F:wl.length=w.size:=by rw [<- hw];simp
  refine YZ fun G H o V=>?_
  have I:=B.ext o
  refine Zv (fun p h'=>∃ (n:Nat) (C:BL),p.1=n/\n<=w.size/\Rd h' R s C/\Zgr (wl.drop n) C=Zgr wl l/\Upd (· = R) G h') (fun p _=>w.size - p.1.toNat) ⟨0,l,rfl,Ayk _,I,rfl,Upd.refl _ _⟩ ?_
  rintro ⟨i,u⟩ q ⟨n,t,D,W,d,g,m⟩
  dsimp only at D
  subst D
  dsimp only
  refine Zq (fun J=>Za (Zsl ?_)) fun L=>?_
  ·have e:n<wl.length:=by omega
   have hd:wl.drop n=wl[n]::wl.drop (n+1):=Ayl e
   have M:w[n]?=some wl[n]:=by
     subst hw
     rw [getElem?_pos w n (by omega)]
     simp
     rfl
   refine ZGQ d ⟨wl[n],by omega,by rw [Aqu];exact M,?_⟩
   dsimp only
   rw [hd] at g
   rcases t with _ | ⟨c,t⟩
   ·have a:∀ j r,(ZaW 20 ([]:BL):Out Unit) = .err j r->r=[]->P (Zgw j (s.size - r.length)) q:=fun j r he A=>b j r q (by rw [<- g,<- he];rfl) (UN o m)
    refine Zar (fun _=>ZbX d rfl a) fun _=>Zqb d (fun _=>ZbX d rfl a) fun f=>absurd rfl f
   ·refine Zar (fun f=>ZbX (α:=Unit) d rfl fun j r he A=>?_) fun heq=>Zqb d (fun N=>by cases N) fun _=>ZdW d fun E O v z3=>?_
    ·refine b j r q ?_ (UN o m)
     rw [<- g,<- he]
     unfold Zgr
     rw [if_neg (ZkP f)]
     rfl
    ·rw [YA (by omega) (by omega)]
     refine ⟨⟨n+1,t,rfl,by omega,O,?_,m.trans v⟩,by omega⟩
     rw [<- g]
     conv=>rhs;unfold Zgr
     rw [if_pos (Zke heq)]
  ·have e:n=wl.length:=by omega
   subst e
   rw [Aym] at g
   have Q:obj q h.size=some (.cells zV.toArray 33 (0,0)):=ZG H m (show ¬ h.size=R from by have:sz h=h.size:=rfl;omega)
   refine ZbF (x:=⟨none,0,0⟩) (y:=⟨none,0,0⟩) Q rfl fun E v z3=>z t E (by rw [<- g];rfl) (d.upd v (show ¬ R=h.size from by have:sz h=h.size:=rfl;omega)) ?_
   exact UT (UN o m) v fun k S=> .inr (by subst S;exact Aqo _)
theorem Zfs {c:UInt8}:ZbS c=true↔48<=c.toNat/\c.toNat<=57:=by unfold ZbS;simp
theorem ZjX {h:Zc} {R:Nat} {s:ByteArray} {l:BL} (m:Rd h R s l) {K:HP} {P:Value->HP}
    (t:∀ r h',Xp l = .ok () r->Rd h' R s r->Upd (· = R) h h'->K h') (n:OnE h R s (· = R) (Xp l) P):YS (At R) K P h:=by
  unfold YS Zdh
  refine Zsl (Zao m (Za ?_))
  have a:(∀ c b,l=c::b->¬ ZbS c=true)->∀ o r,(ZaW 21 l:Out Unit) = .err o r->r=l->P (Zgw o (s.size - r.length)) h:=fun v o r he C=>n o r h (by
    rw [<- he]
    rcases l with _ | ⟨c,l⟩
    ·rfl
    ·dsimp only [Xp]
     rw [if_neg (v c l rfl)];rfl) (Upd.refl _ _)
  refine Zq (fun e=>ZbX m rfl (a ?_)) fun e=>Zq (fun g=>ZbX m rfl (a ?_)) fun g=>?_
  ·rintro c b rfl hd
   have:=Zfs.1 hd
   simp only [Zce] at e
   omega
  ·rintro c b rfl hd
   have:=Zfs.1 hd
   simp only [Zce] at g
   omega
  ·rcases l with _ | ⟨c,l⟩
   ·simp [Zce] at e
   ·simp only [Zce] at e g
    have hd:ZbS c=true:=Zfs.2 (by omega)
    have D:Xp (c::l) = .ok () (l.dropWhile ZbS):=by dsimp only [Xp];rw [if_pos hd]
    refine Zao m (Za ?_)
    refine Zv (fun p h'=>∃ b,p.1=Zce b/\Rd h' R s b/\b.dropWhile ZbS=l.dropWhile ZbS/\Upd (· = R) h h') (fun _ h'=>left h' R) ⟨c::l,rfl,m,by rw [Ayi hd],Upd.refl _ _⟩ ?_
    rintro ⟨i,u⟩ y ⟨j,z,q,A,B⟩
    dsimp only at z ⊢
    subst z
    have fin:(∀ c b,j=c::b->¬ ZbS c=true)->K y:=fun v=>t _ y D (by
      rw [<- A]
      rcases j with _ | ⟨d,j⟩
      ·exact q
      ·rw [Ayj (by simpa using v d j rfl)];exact q) B
    refine Zq (fun f=>Zq (fun k=>?_) fun k=>fin ?_) fun f=>fin ?_
    ·rcases j with _ | ⟨d,j⟩
     ·simp [Zce] at f
     ·simp only [Zce] at f k
      have w:ZbS d=true:=Zfs.2 (by omega)
      refine ZdW q fun F x E z2=>Zao x (Za ⟨⟨j,rfl,x,?_,B.trans E⟩,by rw [q.left,x.left];simp⟩)
      rw [<- A,Ayi w]
    ·rintro d b rfl hd
     have:=Zfs.1 hd
     simp only [Zce] at k
     omega
    ·rintro d b rfl hd
     have:=Zfs.1 hd
     simp only [Zce] at f
     omega
theorem ZhP {l:BL} (c:UInt8) {n:Int} {A B:Prop} (f:∀ a,l=c::a->A) (b:(∀ d a,l=d::a->d≠c)->B) (g:n=(c.toNat:Int):=by rfl) (i:0<c.toNat:=by decide):Zy (Zce l ==n) A B:=by
  subst g
  rcases l with _ | ⟨d,l⟩
  ·refine Zl ?_ (b fun d a e=>by cases e)
   simp only [Zce,beq_eq_false_iff_ne,ne_eq]
   omega
  ·refine Zag (fun e=>f l ?_) fun e=>b ?_
   ·simp only [Zce] at e
    rw [Zke e]
   ·rintro j a h
    cases h
    exact ZkP e
theorem Zkw {l:BL} (c:UInt8) {n:Int} {A B:Prop} (b:(∀ d a,l=d::a->d≠c)->A) (f:∀ a,l=c::a->B) (g:n=(c.toNat:Int):=by rfl) (i:0<c.toNat:=by decide):Zy (Zce l !=n) A B:=by
  subst g
  rcases l with _ | ⟨d,l⟩
  ·refine Zm ?_ (b fun d a e=>by cases e)
   simp only [Zce,bne_iff_ne,ne_eq]
   omega
  ·refine Zar (fun e=>b ?_) fun e=>f l ?_
   ·rintro j a h
    cases h
    exact ZkP e
   ·simp only [Zce] at e
    rw [Zke e]
theorem Ztg {h:Zc} {R:Nat} {s:ByteArray} {l:BL} (hr:Rd h R s l) {K:(Int × ByteArray × Sl × Sl × Unit)->HP} {P:Value->HP}
    (aa:∀ r h',Zih l = .ok () r->Rd h' R s r->Upd (· = R) h h'->K (4,Zj (upto l r),⟨none,0,0⟩,⟨none,0,0⟩,()) h') (o:OnE h R s (· = R) (Zih l) P):XX (At R) K P h:=by
  unfold XX Zdf
  have hR:=hr.lt
  refine YZ fun t c1 J z1=>?_
  have Z:=hr.ext J
  refine Zjh Z fun n0 g0=>Za ?_
  refine ZO (fun _ h'=>Rd h' R s (Zee l)/\Upd (· = R) t h') ?_ ?_
  ·rintro ⟨⟩ h2 ⟨L,M⟩
   refine ZO (fun _ h'=>∃ u,ZlW (Zee l) = .ok () u/\Rd h' R s u/\Upd (· = R) t h') ?_ ?_
   ·rintro ⟨⟩ G ⟨u,q1,D,w⟩
    refine ZO (fun _ h'=>∃ i,ZiL u = .ok () i/\Rd h' R s i/\Upd (· = R) t h') ?_ ?_
    ·rintro ⟨⟩ h4 ⟨i,q2,Q,H⟩
     refine ZO (fun _ h'=>∃ j,Znl i = .ok () j/\Rd h' R s j/\Upd (· = R) t h') ?_ ?_
     ·rintro ⟨⟩ m ⟨j,q3,p,n⟩
      have q:Zih l = .ok () j:=by unfold Zih;rw [q1];dsimp only [Out.bind_ok];rw [q2];exact q3
      have S:=Zuy q
      obtain ⟨_,n5,b5,g5⟩:=id p
      refine Zo (Zo (rS (Zb b5 rfl) (rI (Zb b5 rfl) ?_)))
      have hle:n0<=n5:=by have:=g0.len;have:=g5.len;have:=S.length_le;omega
      refine ⟨by omega,by omega,by have:=g5.len;omega,?_⟩
      rw [Aqu,Aqu,g0.extract g5 hle]
      have hb:obj m h.size=some (.cells zV.toArray 33 (0,0)):=ZG c1 n (show ¬ h.size=R from by have:sz h=h.size:=rfl;omega)
      refine ZbF (x:=⟨none,0,0⟩) (y:=⟨none,0,0⟩) hb rfl fun N z z6=>aa j N q (p.upd z (show ¬ R=h.size from by have:sz h=h.size:=rfl;omega)) ?_
      exact UT (UN J n) z fun k hk=> .inr (by subst hk;exact Aqo _)
     ·have er:∀ {g},Znl i=Xp g->∀ {m:Zc},Upd (· = R) t m->OnE m R s (· = R) (Xp g) P:=fun q m n e r N he z=>o e r N (by unfold Zih;rw [q1];dsimp only [Out.bind_ok];rw [q2];dsimp only [Out.bind_ok];rw [q];exact he) (UN J (n.trans z))
      have dg:∀ {g:BL} {m:Zc},Rd m R s g->Znl i=Xp g->Upd (· = R) t m->YS (At R) (fun h'=>∃ j,Znl i = .ok () j/\Rd h' R s j/\Upd (· = R) t h') P m:=fun p q n=>ZjX p (fun r N hd T z=>⟨r,q.trans hd,T,n.trans z⟩) (er q n)
      have sg:∀ {g:BL} {m:Zc} {A B C:Prop},Rd m R s g->(∀ f,g=43::f->A)->(∀ f,g=45::f->B)->((∀ d f,g=d::f->d≠43/\d≠45)->C)->Zy (Zce g ==43) A (Zy (Zce g ==45) B C):=fun {g m A B C} p a b c =>
        ZhP 43 (fun f e=>a f e) fun ae=>ZhP 45 (fun f e=>b f e) fun af=>c fun d f e=>⟨ae d f e,af d f e⟩
      have go:∀ {c:UInt8} {g:BL},i=c::g->(c=101\/c=69)->∀ {f:BL},Zkh g=f->Znl i=Xp f:=fun {c g} e he {f} hs=>by
        subst e
        dsimp only [Znl]
        rw [if_pos he,hs]
      have both:∀ {c:UInt8} {g:BL},i=c::g->(c=101\/c=69)->Ze (At R) fun ag ah=>ldI h4 ag (ah+1) .i64 fun t49=>Ze (At R) fun ai aj=>st h4 ai (aj+1) (.int .i64 (IntKind.wrap .i64 (t49+1))) fun ak =>
          Zx (At R) (fun t53 v=>Zi t53 fun U=>Zy (U ==43) (Ze (At R) fun al an=>ldI v al (an+1) .i64 fun t58=>Ze (At R) fun ao aq=>st v ao (aq+1) (.int .i64 (IntKind.wrap .i64 (t58+1))) fun ar =>
           YS (At R) (fun V=>∃ j,Znl i = .ok () j/\Rd V R s j/\Upd (· = R) t V) P ar) (Zy (U ==45) (Ze (At R) fun au av=>ldI v au (av+1) .i64 fun t65=>Ze (At R) fun aw ax=>st v aw (ax+1) (.int .i64 (IntKind.wrap .i64 (t65+1))) fun ay =>
           YS (At R) (fun W=>∃ j,Znl i = .ok () j/\Rd W R s j/\Upd (· = R) t W) P ay) (YS (At R) (fun X=>∃ j,Znl i = .ok () j/\Rd X R s j/\Upd (· = R) t X) P v))) ak:=fun {c g} e he=>by
        subst e
        refine ZdW Q fun m p n z5=>Zao p (Za (sg p (fun f O=>?_) (fun f O=>?_) fun F=>?_))
        ·subst O
         exact ZdW p fun N T z z6=>dg T (go rfl he (by dsimp only [Zkh];rw [if_pos (.inl rfl)])) ((H.trans n).trans z)
        ·subst O
         exact ZdW p fun N T z z6=>dg T (go rfl he (by dsimp only [Zkh];rw [if_pos (.inr rfl)])) ((H.trans n).trans z)
        ·refine dg p (go rfl he ?_) (H.trans n)
         rcases g with _ | ⟨d,g⟩
         ·rfl
         ·dsimp only [Zkh]
          rw [if_neg (by have:=F d g rfl;simp [this.1,this.2])]
      refine Zao Q (Za (ZhP 101 (fun g e=>both e (.inl rfl)) fun n101=>ZhP 69 (fun g e=>both e (.inr rfl)) fun az=>⟨i,?_,Q,H⟩))
      rcases i with _ | ⟨d,i⟩
      ·rfl
      ·dsimp only [Znl]
       rw [if_neg (by have:=n101 d i rfl;have:=az d i rfl;intro Y;rcases Y with Y | Y<;>contradiction)]
    ·refine Zao D (ZhP 46 (fun g e=>?_) fun F=>⟨u,?_,D,w⟩)
     ·subst e
      refine ZdW D fun h4 Q H z4=>ZjX Q (fun r m hd p n=>⟨r,hd,p,(w.trans H).trans n⟩) fun e r m he n=>o e r m (by unfold Zih;rw [q1];dsimp only [Out.bind_ok];rw [show ZiL (46::g)=Xp g from rfl,he];rfl) (UN J ((w.trans H).trans n))
     ·rcases u with _ | ⟨d,u⟩
      ·rfl
      ·dsimp only [ZiL]
       rw [if_neg (F d u rfl)]
   ·refine Zao L (ZhP 48 (fun g e=>?_) fun F=>?_)
    ·have q:∀ {e r},Zda g = .err e r->Zih l = .err e r:=fun {O r} Y=>by
       unfold Zih
       rw [e,show ZlW (48::g)=Zda g from rfl,Y];rfl
     rw [e] at L ⊢
     refine ZdW L fun G D w z3=>Zao D (Za ?_)
     have fin:(∀ c f,g=c::f->¬ ZbS c=true)->∃ u,ZlW (48::g) = .ok () u/\Rd G R s u/\Upd (· = R) t G:=fun hc=>⟨g,by
       rw [show ZlW (48::g)=Zda g from rfl]
       rcases g with _ | ⟨d,g⟩
       ·rfl
       ·dsimp only [Zda]
        rw [if_neg (hc d g rfl)],D,M.trans w⟩
     refine Zq (fun E=>Zq (fun I=>ZbX (α:=Unit) D rfl fun O r he aN=>?_) fun I=>fin ?_) fun E=>fin ?_
     ·rcases g with _ | ⟨d,g⟩
      ·simp [Zce] at E
      ·simp only [Zce] at E I
       refine o O r G (q ?_) (UN J (M.trans w))
       dsimp only [Zda]
       rw [if_pos (Zfs.2 (by omega)),<- he];rfl
     ·rintro d f rfl hd
      have:=Zfs.1 hd
      simp only [Zce] at I
      omega
     ·rintro d f rfl hd
      have:=Zfs.1 hd
      simp only [Zce] at E
      omega
    ·have q:ZlW (Zee l)=Xp (Zee l):=by
       generalize Zee l=lm at F
       rcases lm with _ | ⟨d,lm⟩
       ·rfl
       ·dsimp only [ZlW]
        rw [if_neg (F d lm rfl)]
     exact ZjX L (fun r G hd D w=>⟨r,q.trans hd,D,M.trans w⟩) fun e r G he w=>o e r G (by unfold Zih;rw [q,he];rfl) (UN J (M.trans w))
  ·refine Zao Z (ZhP 45 (fun g e=>?_) fun F=>?_)
   ·subst e
    exact ZdW Z fun h2 L M z2=>⟨L,M⟩
   ·have hm:Zee l=l:=by
      rcases l with _ | ⟨d,l⟩
      ·rfl
      ·dsimp only [Zee]
       rw [if_neg (F d l rfl)]
    exact ⟨by rw [hm];exact Z,Upd.refl _ _⟩
end Go.Proofs.YtpjbjdheeemdiaaGreatDoor
namespace Go.Js
open Go
def okC:Nat->Nat->BL->Bool
  | _,_,[]=>true
  | a,b,d::r=>decide (a<=d.toNat)&&decide (d.toNat<=b)&&okC 128 191 r
abbrev nRb (c:UInt8):Nat:=(Zub c.toNat).1
abbrev loR (c:UInt8):Nat:=(Zub c.toNat).2.1
abbrev hiR (c:UInt8):Nat:=(Zub c.toNat).2.2
def ZoL:BL->Bool
  | []=>false
  | c::r=>decide (nRb c≠0)&&decide (r.length<nRb c)&&okC (loR c) (hiR c) r
def Zcs:BL->Bool
  | []=>false
  | c::r=>decide (nRb c≠0)&&decide (r.length+1=nRb c)&&okC (loR c) (hiR c) r
theorem Zu9:∀ (m:Nat) {a b:Nat} {r:BL},okC a b (r.take m)=true->m<=r.length->Zft m a b r = .ok () (r.drop m)
  | 0,_,_,_,_,_=>rfl
  | m+1,_,_,[],_,c=>by simp at c
  | m+1,a,b,d::r,h,c=>by
    simp only [Ayn,okC,Awn,decide_eq_true_eq] at h
    unfold Zft
    rw [if_pos h.1,Zu9 m h.2 (by simpa using c)]
    rfl
theorem Zsp:∀ (m:Nat) {a b:Nat} {r:BL},okC a b r=true->r.length<m->Zft m a b r = .err 24 []
  | 0,_,_,_,_,c=>by omega
  | m+1,_,_,[],_,_=>rfl
  | m+1,a,b,d::r,h,c=>by
    simp only [okC,Awn,decide_eq_true_eq] at h
    unfold Zft
    rw [if_pos h.1,Zsp m h.2 (by simpa using c)]
theorem Zsq:∀ (m j:Nat) {a b:Nat} {r:BL},okC a b (r.take j)=true->okC a b (r.take (j+1))=false->j<m->j<r.length->Zft m a b r = .err 22 (r.drop j)
  | 0,_,_,_,_,_,_,hm,_=>by omega
  | m+1,_,_,_,[],_,_,_,c=>by simp at c
  | m+1,0,a,b,d::r,_,h',_,_=>by
    unfold Zft
    rw [if_neg (fun e=>by simp [okC,e.1,e.2] at h')]
    rfl
  | m+1,j+1,a,b,d::r,h,h',hm,c=>by
    simp only [Ayn,okC,Awn,decide_eq_true_eq] at h
    have f:okC 128 191 (r.take (j+1))=false:=by
      have g:okC a b (d::r.take (j+1))=false:=by simpa only [Ayn] using h'
      simpa [okC,h.1.1,h.1.2] using g
    unfold Zft
    rw [if_pos h.1,Zsq m j h.2 f (by omega) (by simpa using c)]
    rfl
theorem Zso:∀ (m:Nat) {e f:Nat} {r q:BL},Zft m e f r = .ok () q->okC e f (r.take m)=true/\m<=r.length/\q=r.drop m
  | 0,_,_,_,_,h=>by cases h;exact ⟨rfl,Ayk _,rfl⟩
  | m+1,_,_,[],_,h=>by cases h
  | m+1,e,f,d::r,q,h=>by
    unfold Zft at h
    split at h
    ·rename_i g
     obtain ⟨a,b,c⟩:=Zso m h
     refine ⟨?_,by simpa using b,by simpa using c⟩
     simp only [Ayn,okC,Awn,decide_eq_true_eq]
     exact ⟨g,a⟩
    ·cases h
theorem Zhf (c:UInt8) (r:BL):Zcx (c::r)=if nRb c=0 then .err 22 (c::r) else Zft (nRb c - 1) (loR c) (hiR c) r:=rfl
theorem Zmr {l q:BL} (h:Zcx l = .ok () q):∃ x,l=x++q/\Zcs x=true:=by
  rcases l with _ | ⟨c,r⟩
  ·cases h
  ·rw [Zhf] at h
   split at h
   ·cases h
   ·rename_i d
    obtain ⟨a,b,e⟩:=Zso _ h
    refine ⟨c::r.take (nRb c - 1),by rw [e];simp,?_⟩
    simp only [Zcs,Awn,decide_eq_true_eq]
    refine ⟨⟨d,?_⟩,a⟩
    rw [Ayo]
    have:nRb c≠0:=d
    omega
theorem Zrv {x q:BL} (h:Zcs x=true):Zcx (x++q) = .ok () q:=by
  rcases x with _ | ⟨c,r⟩
  ·cases h
  ·simp only [Zcs,Awn,decide_eq_true_eq] at h
   obtain ⟨⟨a,d⟩,b⟩:=h
   rw [Ayp,Zhf,if_neg a,Zu9 (nRb c - 1)]
   ·rw [show nRb c - 1=r.length by omega];simp
   ·rw [show nRb c - 1=r.length by omega];simpa using b
   ·simp;omega
theorem Zx4 {l:BL} (h:ZoL l=true) (d:Zcs l=false):Zcx l = .err 24 []:=by
  rcases l with _ | ⟨c,r⟩
  ·cases h
  ·simp only [ZoL,Awn,decide_eq_true_eq] at h
   obtain ⟨⟨a,f⟩,b⟩:=h
   have g:r.length+1≠nRb c:=by
     intro e
     simp [Zcs,e,b,show nRb c≠0 from a] at d
   rw [Zhf,if_neg a,Zsp _ b (by have:=f;omega)]
theorem Zx5 {x:BL} {d:UInt8} {q:BL} (h:x=[]\/(ZoL x=true/\Zcs x=false)) (hd:ZoL (x++[d])=false):Zcx (x++d::q) = .err 22 (d::q):=by
  rcases x with _ | ⟨c,r⟩
  ·simp only [Ayq,ZoL,okC,Ayr,Ays] at hd ⊢
   rw [Zhf,if_pos]
   have:¬ (nRb d≠0/\0<nRb d):=by simpa using hd
   show nRb d=0
   omega
  ·rcases h with h | ⟨h,g⟩
   ·cases h
   ·simp only [ZoL,Awn,decide_eq_true_eq] at h
    obtain ⟨⟨a,b⟩,f⟩:=h
    have i:r.length+1≠nRb c:=by
      intro e
      simp [Zcs,e,f,show nRb c≠0 from a] at g
    rw [Ayp,Zhf,if_neg a,Zsq _ r.length (r:=r++d::q)]
    ·simp
    ·simpa using f
    ·have j:okC (loR c) (hiR c) (r++[d])=false:=by
       simp only [Ayp,ZoL,Awe,List.length_singleton] at hd
       simpa [show nRb c≠0 from a,show r.length+1<nRb c by have:=b;omega] using hd
     rw [List.take_append,show r.length+1 - r.length=1 by omega,Awd (by omega)]
     exact j
    ·have:=b;show r.length<nRb c - 1;omega
    ·simp
theorem ZxQ:∀ b:Fin 256,128<=b.val->(nRb ⟨⟨b⟩⟩=0/\Lib.firstT b.val % 8≠2/\Lib.firstT b.val % 8≠3/\Lib.firstT b.val % 8≠4) \/
    (nRb ⟨⟨b⟩⟩=Lib.firstT b.val % 8/\(nRb ⟨⟨b⟩⟩=2\/nRb ⟨⟨b⟩⟩=3\/nRb ⟨⟨b⟩⟩=4)/\loR ⟨⟨b⟩⟩=Lib.accLo (Lib.firstT b.val / 16)/\hiR ⟨⟨b⟩⟩=Lib.accHi (Lib.firstT b.val / 16)):=by
  decide +kernel
theorem ZB4 (c:UInt8) (h:128<=c.toNat):(nRb c=0/\Lib.firstT c.toNat % 8≠2/\Lib.firstT c.toNat % 8≠3/\Lib.firstT c.toNat % 8≠4) \/
    (nRb c=Lib.firstT c.toNat % 8/\(nRb c=2\/nRb c=3\/nRb c=4)/\loR c=Lib.accLo (Lib.firstT c.toNat / 16)/\hiR c=Lib.accHi (Lib.firstT c.toNat / 16)):=by
  rcases c with ⟨⟨b⟩⟩
  exact ZxQ b h
theorem ZrM (c:UInt8) (h:c.toNat<128):nRb c=1:=by unfold nRb Zub;rw [if_pos h]
theorem ZPL {c:UInt8} {r:BL}:((c::r).getD 0 0)=c:=rfl
theorem ZcW (c:UInt8) (r:BL):(¬ ((Lib.decodeL (c::r)).1=65533/\(Lib.decodeL (c::r)).2=1)->(Lib.decodeL (c::r)).2=nRb c/\Zcs ((c::r).take (nRb c))=true) /\
    (Zcs ((c::r).take (nRb c))=true->¬ ((Lib.decodeL (c::r)).1=65533/\(Lib.decodeL (c::r)).2=1)):=by
  by_cases m:c.toNat<128
  ·rw [Lib.decodeL_ascii c r m]
   have f:=ZrM c m
   refine ⟨fun _=>⟨f.symm,?_⟩,fun _ h=>?_⟩
   ·rw [f]
    simp [Zcs,f,okC]
   ·simp at h;omega
  ·have d:128<=c.toNat:=by omega
   rw [Lib.decodeL_N]
   simp only [ZPL]
   have g:∀ i,((c::r).getD i 0).toNat<256:=fun i=>UInt8.toNat_lt _
   have key:=Lib.check_decode (c::r).length c.toNat ((c::r).getD 1 0).toNat ((c::r).getD 2 0).toNat ((c::r).getD 3 0).toNat (by simp) d c.toNat_lt (g 1) (g 2) (g 3)
   rcases ZB4 c d with ⟨t0,t2,t3,t4⟩ | ⟨o,j,tl,p⟩
   ·have:Lib.checkN (c::r).length ((c::r).getD 1 0).toNat ((c::r).getD 2 0).toNat ((c::r).getD 3 0).toNat (Lib.firstT c.toNat % 8) (Lib.accLo (Lib.firstT c.toNat / 16)) (Lib.accHi (Lib.firstT c.toNat / 16))=none:=by
      unfold Lib.checkN;rw [if_neg t2,if_neg t3,if_neg t4]
    rw [this] at key
    rcases key with ⟨_,k⟩ | ⟨k,_,a,_⟩
    ·rw [k]
     refine ⟨fun h=>absurd ⟨rfl,rfl⟩ h,fun h=>?_⟩
     rw [t0] at h;cases h
    ·cases a
   ·rw [<- o,<- tl,<- p] at key
    have q:nRb c≠0:=by omega
    rcases key with ⟨a,k⟩ | ⟨k,s,a,e⟩
    ·rw [k]
     refine ⟨fun h=>absurd ⟨rfl,rfl⟩ h,fun ho=>?_⟩
     exfalso
     unfold Lib.checkN at a
     rcases j with n | n | n<;>rw [n] at a ho<;>simp only [Nat.reduceEqDiff,↓reduceIte] at a<;>split at a<;>cases a
     ·rename_i b
      rcases r with _ | ⟨d1,r⟩
      ·simp [Zcs,n] at ho
      ·simp [Zcs,n,okC] at ho b;omega
     ·rename_i b
      rcases r with _ | ⟨d1,_ | ⟨d2,r⟩⟩
      ·simp [Zcs,n] at ho
      ·simp [Zcs,n] at ho
      ·simp [Zcs,n,okC] at ho b;omega
     ·rename_i b
      rcases r with _ | ⟨d1,_ | ⟨d2,_ | ⟨d3,r⟩⟩⟩
      ·simp [Zcs,n] at ho
      ·simp [Zcs,n] at ho
      ·simp [Zcs,n] at ho
      ·simp [Zcs,n,okC] at ho b;omega
    ·rw [e]
     have l:k=nRb c:=by
       unfold Lib.checkN at a
       rcases j with n | n | n<;>rw [n] at a ⊢ <;> simp only [Nat.reduceEqDiff,↓reduceIte] at a<;>split at a<;>cases a<;>rfl
     subst l
     refine ⟨fun _=>⟨rfl,?_⟩,fun _ h=>by omega⟩
     unfold Lib.checkN at a
     rcases j with n | n | n<;>rw [n] at a ⊢ <;> simp only [Nat.reduceEqDiff,↓reduceIte] at a<;>split at a<;>cases a
     ·rename_i b
      rcases r with _ | ⟨d1,r⟩
      ·simp at b
      ·simp [Zcs,n,okC] at b ⊢;omega
     ·rename_i b
      rcases r with _ | ⟨d1,_ | ⟨d2,r⟩⟩
      ·simp at b
      ·simp at b
      ·simp [Zcs,n,okC] at b ⊢;omega
     ·rename_i b
      rcases r with _ | ⟨d1,_ | ⟨d2,_ | ⟨d3,r⟩⟩⟩
      ·simp at b
      ·simp at b
      ·simp at b
      ·simp [Zcs,n,okC] at b ⊢;omega
def ZuJ (n:Nat):Bool:=decide (55296<=n)&&decide (n<56320)
def ZCr (n:Nat):Bool:=decide (56320<=n)&&decide (n<57344)
def Zyk (n m:Nat):Nat:=65536+(n - 55296)*1024+(m - 56320)
theorem Zzk {n:Nat} (h:ZuJ n=true):ZlH n=65533:=by
  simp [ZuJ] at h
  unfold ZlH;rw [if_pos (by omega)]
inductive Tok where
  | ch (m:UInt8)
  | uni (n:Nat)
def Zou:BL->Out Tok
  | []=> .err 24 []
  | c::l=>match ZfD c with
    | some m=> .ok (.ch m) l
    | none=>if c=117 then (Zji 4 0 l).bind fun n r=> .ok (.uni n) r else .err 22 (c::l)
def flB:Option Nat->BL
  | none=>[]
  | some _=>Zhc 65533
def Zot (p:Option Nat) (out:BL):Tok->Option Nat × BL
  | .ch m=>(none,out++flB p++[m])
  | .uni k=>match p with
    | some n=>if ZCr k then (none,out++Zhc (Zyk n k)) else if ZuJ k then (some k,out++Zhc 65533) else (none,out++Zhc 65533++Zhc (ZlH k))
    | none=>if ZuJ k then (some k,out) else (none,out++Zhc (ZlH k))
def Zd3:Nat->Option Nat->BL->BL->Out BL
  | 0,_,_,_=> .err 24 []
  | _+1,_,_,[]=> .err 24 []
  | n+1,p,out,c::l =>
    if c.toNat<32 then .err 22 (c::l)
    else if c=34 then .ok (out++flB p) l
    else if c=92 then (Zou l).bind fun t a=>Zd3 n (Zot p out t).1 (Zot p out t).2 a
    else if c.toNat<128 then Zd3 n none (out++flB p++[c]) l
    else (Zcx (c::l)).bind fun _ a=>Zd3 n none (out++flB p++upto (c::l) a) a
theorem ZeC (n:Nat) (p:Option Nat) (out:BL) (c:UInt8) (l:BL):Zd3 (n+1) p out (c::l) =
    if c.toNat<32 then .err 22 (c::l)
    else if c=34 then .ok (out++flB p) l
    else if c=92 then (Zou l).bind fun t a=>Zd3 n (Zot p out t).1 (Zot p out t).2 a
    else if c.toNat<128 then Zd3 n none (out++flB p++[c]) l
    else (Zcx (c::l)).bind fun _ a=>Zd3 n none (out++flB p++upto (c::l) a) a:=rfl
theorem ZkS (n:Nat) (out:BL) (c:UInt8) (l:BL):Zjy (n+1) out (c::l) =
    if c.toNat<32 then .err 22 (c::l)
    else if c=34 then .ok out l
    else if c=92 then (ZtC l).bind fun o a=>Zjy n (out++o) a
    else if c.toNat<128 then Zjy n (out++[c]) l
    else (Zcx (c::l)).bind fun _ a=>Zjy n (out++upto (c::l) a) a:=rfl
theorem ZfV (c:UInt8) (l:BL):Zou (c::l)=match ZfD c with
    | some m=> .ok (.ch m) l
    | none=>if c=117 then (Zji 4 0 l).bind fun n r=> .ok (.uni n) r else .err 22 (c::l):=rfl
theorem Zhq (c:UInt8) (l:BL):ZtC (c::l)=match ZfD c with
    | some m=> .ok [m] l
    | none=>if c=117 then ZGn l else .err 22 (c::l):=rfl
theorem Zjx (l:BL):ZGn l=(Zji 4 0 l).bind fun n a =>
  match (if 55296<=n/\n<56320 then ZdT a else none) with
  | some b=>(Zji 4 0 b).bind fun m c=>if 56320<=m/\m<57344 then .ok (Zhc (65536+(n - 55296)*1024+(m - 56320))) c else .ok (Zhc (ZlH n)) a
  | none=> .ok (Zhc (ZlH n)) a:=rfl
theorem ZiR (a b:UInt8) (l:BL):ZdT (a::b::l)=if a=92/\b=117 then some l else none:=rfl
theorem ZfG:∀ (k:Nat) {n m:Nat} {l r:BL},Zji k n l = .ok m r->r.length+k=l.length/\r <:+l
  | 0,_,_,_,_,h=>by cases h;exact ⟨rfl,Ayg _⟩
  | k+1,_,_,[],_,h=>by cases h
  | k+1,n,m,c::l,r,h=>by
    unfold Zji at h
    split at h
    ·obtain ⟨a,b⟩:=ZfG k h
     exact ⟨by simp;omega,ZbH b⟩
    ·cases h
theorem Zkf {l r:BL} {t:Tok} (h:Zou l = .ok t r):r.length<l.length/\r <:+l:=by
  rcases l with _ | ⟨c,l⟩
  ·cases h
  ·dsimp only [Zou] at h
   split at h
   ·cases h;exact ⟨by simp,Aye _ _⟩
   ·split at h
    ·obtain ⟨n,f,d,e⟩:=Yh h
     cases e
     obtain ⟨a,b⟩:=ZfG 4 d
     exact ⟨by simp;omega,ZbH b⟩
    ·cases h
theorem Ze1 {l r:BL} (h:Zcx l = .ok () r):r.length<l.length/\r <:+l:=by
  obtain ⟨x,e,a⟩:=Zmr h
  rw [e]
  refine ⟨?_,List.suffix_append _ _⟩
  rcases x with _ | ⟨c,x⟩
  ·cases a
  ·simp only [Ayp,Aqj,Awe];omega
theorem Zfe {l c:BL} (h:ZdT l=some c):l=92::117::c:=by
  rcases l with _ | ⟨a,_ | ⟨b,l⟩⟩
  ·cases h
  ·cases h
  ·rw [ZiR] at h
   split at h
   ·rename_i d;cases h;rw [d.1,d.2]
   ·cases h
theorem ZfJ:∀ (n m:Nat) (p:Option Nat) (out l:BL),l.length<n->l.length<m->Zd3 n p out l=Zd3 m p out l
  | 0,_,_,_,_,h,_=>by omega
  | _,0,_,_,_,_,h=>by omega
  | n+1,m+1,p,out,[],_,_=>rfl
  | n+1,m+1,p,out,c::l,d,hm=>by
    have a:l.length<n:=by simpa using d
    have b:l.length<m:=by simpa using hm
    unfold Zd3
    split
    ·rfl
    split
    ·rfl
    split
    ·cases e:Zou l with
     | ok t r=>exact ZfJ n m _ _ r (by have:=(Zkf e).1;omega) (by have:=(Zkf e).1;omega)
     | err e r=>rfl
    split
    ·exact ZfJ n m _ _ l a b
    ·cases e:Zcx (c::l) with
     | ok t r=>exact ZfJ n m _ _ r (by have:=(Ze1 e).1;simp at this;omega) (by have:=(Ze1 e).1;simp at this;omega)
     | err e r=>rfl
theorem ZEI:ZfD 117=none:=by decide
theorem ZpU:∀ (n:Nat) (l:BL),l.length<n->(∀ out,Zjy n out l=Zd3 n none out l) /\
    ∀ k out,ZuJ k=true->Zd3 n (some k) out l=match ZdT l with
      | some a=>(Zji 4 0 a).bind fun m j=>if ZCr m then Zd3 n none (out++Zhc (Zyk k m)) j else Zd3 n none (out++Zhc 65533) l
      | none=>Zd3 n none (out++Zhc 65533) l
  | 0,_,h=>by omega
  | n+1,l,h=>by
    have second:∀ k out,ZuJ k=true->Zd3 (n+1) (some k) out l=match ZdT l with
      | some a=>(Zji 4 0 a).bind fun m j=>if ZCr m then Zd3 (n+1) none (out++Zhc (Zyk k m)) j else Zd3 (n+1) none (out++Zhc 65533) l
      | none=>Zd3 (n+1) none (out++Zhc 65533) l:=by
      intro k out b
      rcases l with _ | ⟨c,l⟩
      ·rfl
      cases o:ZdT (c::l) with
      | some a =>
        have e:=Zfe o
        cases e
        simp only
        conv=>lhs;rw [ZeC,if_neg (by decide),if_neg (by decide),if_pos rfl]
        have ht:Zou (117::a)=(Zji 4 0 a).bind fun n r=> .ok (.uni n) r:=by rw [ZfV,ZEI];rfl
        rw [ht]
        cases s:Zji 4 0 a with
        | err e r=>rfl
        | ok m j =>
          have u:=(ZfG 4 s).1
          simp only [Out.bind_ok,Zot]
          simp only [Aqj] at h
          by_cases hm:ZCr m=true
          ·rw [if_pos hm,if_pos hm]
           exact ZfJ _ _ _ _ _ (by omega) (by omega)
          ·rw [if_neg hm,if_neg hm]
           conv=>rhs;rw [ZeC,if_neg (by decide),if_neg (by decide),if_pos rfl,ht,s]
           simp only [Out.bind_ok,Zot]
      | none =>
        simp only
        rw [ZeC,ZeC]
        split
        ·rfl
        split
        ·simp [flB]
        split
        ·rename_i z A w
         subst w
         cases ht:Zou l with
         | err e r=>rfl
         | ok t r =>
           simp only [Out.bind_ok]
           cases t with
           | ch m=>simp [Zot,flB]
           | uni m =>
             exfalso
             rcases l with _ | ⟨d,l⟩
             ·cases ht
             ·rw [ZfV] at ht
              cases hm:ZfD d with
              | some q=>rw [hm] at ht;cases ht
              | none =>
                rw [hm] at ht
                simp only at ht
                split at ht
                ·rename_i hd
                 subst hd
                 rw [ZiR,if_pos ⟨rfl,rfl⟩] at o
                 cases o
                ·cases ht
        split
        ·simp [flB]
        ·cases Zcx (c::l) with
         | err e r=>rfl
         | ok t r=>simp [flB]
    refine ⟨fun out=>?_,second⟩
    rcases l with _ | ⟨c,l⟩
    ·rfl
    have f:=fun (r:BL) (v:r.length<n)=>ZpU n r v
    rw [ZkS,ZeC]
    split
    ·rfl
    split
    ·simp [flB]
    split
    ·rcases l with _ | ⟨d,l⟩
     ·rfl
     simp only [Aqj] at h
     rw [Zhq,ZfV]
     cases hm:ZfD d with
     | some m=>simp only [Out.bind_ok,Zot,flB,Ayt];exact (f l (by omega)).1 _
     | none =>
       simp only
       by_cases hd:d=117
       ·rw [if_pos hd,if_pos hd]
        rw [Zjx]
        cases s:Zji 4 0 l with
        | err e r=>rfl
        | ok k p =>
          have u:=(ZfG 4 s).1
          simp only [Out.bind_ok]
          by_cases b:ZuJ k=true
          ·have g:55296<=k/\k<56320:=by simpa [ZuJ] using b
           rw [if_pos g,show Zot none out (.uni k)=(some k,out) by simp [Zot,b]]
           simp only
           rw [(f p (by omega)).2 k out b]
           cases o:ZdT p with
           | none=>simp only [Out.bind_ok,Zzk b];exact (f p (by omega)).1 _
           | some a =>
             simp only
             cases x:Zji 4 0 a with
             | err e r=>rfl
             | ok m j =>
               have e:=Zfe o
               have y:=(ZfG 4 x).1
               simp only [Out.bind_ok]
               rw [e] at u
               simp only [Aqj] at u
               by_cases hm:ZCr m=true
               ·have i:56320<=m/\m<57344:=by simpa [ZCr] using hm
                rw [if_pos hm,if_pos i]
                exact (f j (by omega)).1 _
               ·have i:¬ (56320<=m/\m<57344):=by simpa [ZCr] using hm
                rw [if_neg hm,if_neg i,Zzk b]
                exact (f p (by rw [e];simp only [Aqj];omega)).1 _
          ·have g:¬ (55296<=k/\k<56320):=by simpa [ZuJ] using b
           rw [if_neg g,show Zot none out (.uni k)=(none,out++Zhc (ZlH k)) by simp [Zot,b]]
           exact (f p (by omega)).1 _
       ·rw [if_neg hd,if_neg hd];rfl
    split
    ·simp only [flB,Ayt];exact (f l (by simpa using h)).1 _
    ·cases v:Zcx (c::l) with
     | err e r=>rfl
     | ok t r=>simp only [Out.bind_ok,flB,Ayt];exact (f r (by have:=(Ze1 v).1;simp at this h;omega)).1 _
end Go.Js
namespace Go.Proofs.YtpjbjdheeemdiaaGreatDoor
open Go Go.Fw Go.Js
theorem ZaT.keep {h h':Zc} (t:ZaT h) (he:∀ k,k<9->k<sz h->obj h' k=obj h k):ZaT h':=by
  have cell:∀ {b o:Nat} {v:Value},b<9->h.cell b o=some v->h'.cell b o=some v:=fun {b o v} j d=>by
    rw [<- d];exact Zpi (he b j (ZzC d)) o
  have l:∀ (w:World) (b o:Nat) (v:Value),b<9->World.cell? { w with heap:=h } ⟨b,o,none⟩=some v->w.heap=h'->w.cell? ⟨b,o,none⟩=some v:=fun w b o v j d hw=>by
    have:b<sz h:=by
      rcases Aqd b h.size with f | f
      ·exact f
      ·simp [World.cell?,Aqe f] at d
    have e:=he b j this
    unfold obj at e
    rw [<- d]
    subst hw
    simp only [World.cell?,e]
  refine ⟨fun w hw=>?_,fun w hw=>?_,?_,?_,?_⟩
  ·have:=t.utf { w with heap:=h } rfl
   exact ⟨fun c d=>l w _ _ _ (by decide) (this.1 c d) hw,fun i m=>⟨l w _ _ _ (by decide) (this.2 i m).1 hw,l w _ _ _ (by decide) (this.2 i m).2 hw⟩⟩
  ·have g:=t.pow { w with heap:=h } rfl
   unfold Lib.TabIs World.var? at g ⊢
   have n:Tryz.prog.globalNamed "internal/strconv.uint64pow10" = some 6:=by kernel_rfl
   rw [n] at g ⊢
   simp only [Option.bind_some] at g ⊢
   have:6<sz h:=by
     rcases Aqd 6 h.size with f | f
     ·exact f
     ·rw [Aqe f] at g;cases g
   have e:=he _ (by decide) this
   unfold obj at e
   subst hw
   rw [e];exact g
  ·obtain ⟨a,b,c⟩:=t.range;exact ⟨a,b,cell (by decide) c⟩
  ·obtain ⟨a,b,c⟩:=t.syn;exact ⟨a,b,cell (by decide) c⟩
  ·obtain ⟨a,c⟩:=t.most;exact ⟨a,cell (by decide) c⟩
theorem ZaT.upd {S:Nat->Prop} {h h':Zc} (t:ZaT h) (u:Upd S h h') (a:∀ k,S k->9<=k):ZaT h' :=
  t.keep fun k d b=>Zt u b fun c=>by have:=a k c;omega
theorem ZaT.ext {h h':Zc} (t:ZaT h) (u:Ext h h'):ZaT h':=t.keep fun k _ a=>Zu u a
structure Buf (h:Zc) (base:Nat) (x:Sl) (l:BL):Prop where
  len:x.len=l.length
  cap:x.len<=x.cap
  big:x.cap<9223372036854775808
  at_:(x.ptr=none/\x.cap=0)\/∃ (b:Nat) (c:List Value),x.ptr=some ⟨b,0,none⟩/\base<=b/\obj h b=some (.cells c.toArray 5 (0,0))/\c.length=x.cap/\l.map bv=c.take x.len/\l≠[]
theorem Buf.nil (h:Zc) (base:Nat):Buf h base ⟨none,0,0⟩ []:=⟨rfl,Aqo _,by decide,.inl ⟨rfl,rfl⟩⟩
theorem Buf.congr {h h':Zc} {base:Nat} {x:Sl} {l:BL} (a:Buf h base x l) (he:∀ b,x.blk=some b->b<sz h->obj h' b=obj h b):Buf h' base x l:=by
  refine ⟨a.len,a.cap,a.big,?_⟩
  rcases a.at_ with f | ⟨b,c,hp,d,e,g⟩
  ·exact .inl f
  ·exact .inr ⟨b,c,hp,d,(he b (by simp [Sl.blk,hp]) (ZaK e)).trans e,g⟩
theorem Buf.lt {h:Zc} {base:Nat} {x:Sl} {l:BL} (d:Buf h base x l) {b:Nat} (e:x.blk=some b):base<=b/\b<sz h:=by
  rcases d.at_ with ⟨hp,_⟩ | ⟨g,c,hp,a,f,_⟩
  ·simp [Sl.blk,hp] at e
  ·simp [Sl.blk,hp] at e
   subst e
   exact ⟨a,ZaK f⟩
theorem ZrJ {h:Zc} {b o:Nat} {vs c:List Value} {e:TypeId} {f:Nat × Nat} (a:obj h b=some (.cells c.toArray e f)):obj (h.puts b o vs) b=some (.cells (Zbi o vs c).toArray e f):=by
  rw [Zec,if_pos rfl,a,ZbJ]
theorem ZgF:∀ (vs:List Value) (o:Nat) (c:List Value),(Zbi o vs c).length=c.length
  | [],o,c=>rfl
  | v::vs,o,c=>by unfold Zbi;rw [ZgF vs];simp
theorem ZiB:∀ (vs:List Value) (o:Nat) (c:List Value),o+vs.length<=c.length->(Zbi o vs c).take (o+vs.length)=c.take o++vs
  | [],o,c,h=>by simp [Zbi]
  | v::vs,o,c,h=>by
    simp only [Aqj] at h
    unfold Zbi
    rw [show o+(v::vs).length=(o+1)+vs.length by simp;omega,ZiB vs (o+1) (c.set o v) (by simp;omega)]
    rw [Ayu,Ayv (by omega),Aqm (Aqo _)]
    simp
theorem ZrH (l:BL):(l.map bv).all Ye=true:=by
  rw [Axc]
  intro v a
  obtain ⟨b,_,rfl⟩:=Ayw.1 a
  exact ZgP
theorem Buf.app {h:Zc} {base:Nat} {x:Sl} {l new:BL} {n:Nat} {cells:List Value} {K:Sl->Zc->Prop} (m:Buf h base x l) (g:base<=sz h) (B:n=new.length) (C:cells=new.map bv) (J:l.length+new.length<=1000000000)
    (p:∀ y h',Buf h' base y (l++new)->Upd (fun k=>base<=k) h h'->sz h<=sz h'->K y h'):Fw.app 5 1 1 [.int .u8 0] x n cells h K:=by
  subst B C
  have hlen:=m.len
  have z:=m.cap
  refine ⟨fun e=>?_,fun D=>⟨by omega,by omega,?_⟩⟩
  ·rcases m.at_ with ⟨hp,A⟩ | ⟨b,c,hp,j,d,f,s,t⟩
   ·left
    have u:new=[]:=Aqr (by omega)
    subst u
    refine ⟨rfl,?_⟩
    have:l=[]:=Aqr (by omega)
    subst this
    refine p _ _ ⟨?_,e,m.big,.inl ⟨hp,A⟩⟩ (Upd.refl _ _) (Aqo _)
    simpa using hlen
   ·right
    refine ⟨b,0,hp,Zje d (by simp [f];omega),ZrH new,?_⟩
    have w:=ZrJ (o:=0+x.len*1) (vs:=new.map bv) d
    refine p _ _ ⟨by simp [hlen],e,m.big,.inr ⟨b,_,hp,j,w,by rw [ZgF];exact f,?_,by simp [t]⟩⟩ ((Upd.puts h b _ _).mono fun k _ p=>by subst p;exact j) (by rw [Zio];exact Aqo _)
    have:=ZiB (new.map bv) (0+x.len*1) c (by simp [f];omega)
    simp only [Ayx] at this
    rw [Ayy,s]
    simpa using this.symm
  ·have q:rdS x 1 h fun old=>old=l.map bv:=by
     rcases m.at_ with ⟨hp,A⟩ | ⟨b,c,hp,j,d,f,s,_⟩
     ·have:l=[]:=Aqr (by omega)
      subst this
      exact .inl ⟨by simpa using hlen,rfl⟩
     ·refine .inr ⟨b,0,l.map bv,hp,by simp [hlen],ZdE d fun i v r=>?_,rfl⟩
      rw [s,Aqf] at r
      split at r
      ·simpa using r
      ·cases r
   have next:∀ cap,x.len+new.length<=cap->cap<9223372036854775808->K ⟨some ⟨h.size,0,none⟩,x.len+new.length,cap⟩ (h.push (.cells (l.map bv++new.map bv++Zbl [.int .u8 0] (cap - (x.len+new.length))).toArray 5)):=fun cap E F=>by
     refine p _ _ ⟨by simp [hlen],E,F,.inr ⟨h.size,_,rfl,g,Zi6,?_,?_,fun G=>by have H:=congrArg List.length G;rw [Awe,Ays] at H;omega⟩⟩ ((Ext.push h _).upd _) (by rw [ZxR];omega)
     ·simp only [Awe,Ayx,ZgK,List.length_singleton];omega
     ·rw [Ayy,Awc (by simp [hlen]),Awd (by simp [hlen])]
   rcases q with ⟨a,b⟩ | ⟨b,o,vs,I,a2,a3,a4⟩
   ·refine .inl ⟨a,?_⟩
    have:l=[]:=by cases l with | nil=>rfl | cons c l=>cases b
    subst this
    exact next
   ·exact .inr ⟨b,o,vs,I,a2,a3,by rw [a4];exact next⟩
def ZHy (T:TypeId):Prop:=T=188\/T=190
def Bld (h:Zc) (B:Nat) (T:TypeId) (out:BL):Prop:=ZHy T/\∃ (c:Value) (x:Sl),obj h B=some (.cells [c,slV x].toArray T (0,0))/\(c = .pointer none\/c = .pointer (At B))/\Buf h (B+1) x out
theorem Bld.lt {h:Zc} {B:Nat} {T:TypeId} {out:BL} (a:Bld h B T out):B<sz h:=by
  obtain ⟨_,c,x,b,_⟩:=a
  exact ZaK b
theorem Bld.congr {h h':Zc} {B:Nat} {T:TypeId} {out:BL} (a:Bld h B T out) (he:∀ b,B<=b->b<sz h->obj h' b=obj h b):Bld h' B T out:=by
  obtain ⟨e,c,x,b,f,d⟩:=id a
  exact ⟨e,c,x,(he B (Aqo _) a.lt).trans b,f,d.congr fun k g i=>he k (by have:=(d.lt g).1;omega) i⟩
theorem Bld.upd {S:Nat->Prop} {h h':Zc} {B:Nat} {T:TypeId} {out:BL} (a:Bld h B T out) (u:Upd S h h') (c:∀ k,S k->k<B):Bld h' B T out :=
  a.congr fun b f d=>Zt u d fun e=>by have:=c b e;omega
theorem ZnE {h:Zc} {B:Nat} {T:TypeId} {out:BL} (g:Bld h B T out) {K:HP} (d:∀ h' x,Bld h' B T out->Upd (fun k=>B<=k) h h'->obj h' B=some (.cells [.pointer (At B),slV x].toArray T (0,0))->Buf h' (B+1) x out->sz h'=sz h->K h'):Yf (At B) K h:=by
  obtain ⟨f,c,x,b,i,e⟩:=g
  refine ⟨B,c,slV x,T,rfl,b,f,?_⟩
  rcases i with rfl | rfl
  ·left
   refine ⟨rfl,?_⟩
   have hp:obj (h.put B 0 (.pointer (some ⟨B,0,none⟩))) B=some (.cells [.pointer (At B),slV x].toArray T (0,0)):=by rw [ZmO,if_pos rfl,b,Ziz];rfl
   have a:Buf (h.put B 0 (.pointer (some ⟨B,0,none⟩))) (B+1) x out:=e.congr fun k d j=>by rw [ZmO,if_neg (by have:=(e.lt d).1;omega)]
   exact d _ x ⟨f,_,x,hp,.inr rfl,a⟩ ((Upd.put h B 0 _).mono fun k _ d=>by subst d;exact Aqo _) hp a ZB5
  ·exact .inr ⟨rfl,d h x ⟨f,_,x,b,.inr rfl,e⟩ (Upd.refl _ _) b e rfl⟩
theorem ZtM {h:Zc} {B:Nat} {T:TypeId} {out:BL} {x a:Sl} {h':Zc} (g:ZHy T) (i:obj h B=some (.cells [.pointer (At B),slV x].toArray T (0,0))) (u:Upd (fun k=>B+1<=k) h h') (e:Buf h' (B+1) a out) {K:HP}
    (b:∀ c,Bld c B T out->Upd (fun k=>B<=k) h c->obj c B=some (.cells [.pointer (At B),slV a].toArray T (0,0))->K c):Ze (At B) fun j l=>st h' j (l+1) (.slice a.ptr a.len a.cap) K:=by
  have d:obj h' B=some (.cells [.pointer (At B),slV x].toArray T (0,0)):=ZG i u (by omega)
  refine Zo (Zk2 d (by simp) ZrG fun c c9 f z9=>b c ?_ ?_ ?_)
  ·exact ⟨g,_,a,c9,.inr rfl,e.congr fun k b m=>Zt f m (by have:=(e.lt b).1;omega)⟩
  ·exact (u.mono fun k _ b=>by omega).trans (f.mono fun k _ b=>by subst b;exact Aqo _)
  ·exact c9
theorem Zl5 {h:Zc} {B:Nat} {T:TypeId} {out:BL} (l:Bld h B T out) {c:UInt8} {n:Int} (m:n=c.toNat) (w:out.length<900000000) {K:Value->HP} (f:∀ h',Bld h' B T (out++[c])->Upd (fun k=>B<=k) h h'->K .nilIface h'):ZB (At B) n K h:=by
  subst m
  unfold ZB XT
  refine ZnE l fun g x i o j p y=>Zo (rL (Zb j rfl) ?_)
  refine ZNy [c] 1 rfl rfl (by decide) fun z b q a _=>q.rd ?_
  have d:=p.congr (h':=b) fun k f r=>Zu a r
  refine d.app (new:=[c]) (by have:=i.lt;have:=a.size;have:sz g=g.size:=rfl;have:sz b=b.size:=rfl;omega) rfl rfl (by simp;omega) fun A C e s D=>?_
  exact ZtM i.1 (Zn j a) s e fun t u v _=>f t u (o.trans ((a.upd _).trans v))
theorem ZsL {h:Zc} {B:Nat} {T:TypeId} {out:BL} (d:Bld h B T out) {s:ByteArray} (n:out.length+s.size<900000000) {K:Int->Value->HP} (e:∀ h',Bld h' B T (out++s.data.toList)->Upd (fun k=>B<=k) h h'->K s.size .nilIface h'):ZA (At B) s K h:=by
  unfold ZA Xz
  refine Za (ZnE d fun o x b f c g p=>Zo (rL (Zb c rfl) ?_))
  refine g.app (new:=s.data.toList) (by have:=b.lt;omega) (by simp) rfl (by simp;omega) fun q r a i t=>?_
  exact ZtM b.1 c i a fun j l m _=>Za (e j l (f.trans m))
theorem Zmp {h:Zc} {B:Nat} {T:TypeId} {out:BL} (o:Bld h B T out) {K:ByteArray->HP} (f:∀ h',Upd (fun k=>B<=k) h h'->K (Zj out) h'):Xb (At B) K h:=by
  obtain ⟨s,c,x,b,t,d⟩:=o
  refine ⟨B,c,x,T,rfl,b,?_⟩
  have m:=d.len
  rcases d.at_ with ⟨hp,p⟩ | ⟨g,cs,hp,q,a,l,r,e⟩
  ·left
   have n:=d.cap
   have:out=[]:=Aqr (by omega)
   subst this
   exact ⟨hp,by simpa using m,p,f h (Upd.refl _ _)⟩
  ·right
   have hlen:0<out.length:=List.length_pos_iff.2 e
   refine ⟨g,Zj out,cs.toArray,(0,0),hp,by omega,by simp [m,Zj,ByteArray.size],by simp [Zj,ByteArray.size];exact e,d.cap,by simp [l],d.big,a,?_,fun h' u=>f h' (u.mono fun k _ f=>by subst f;omega)⟩
   refine ZdE a fun i v j=>?_
   have:Zbk (Zj out)=out.map bv:=by unfold Zbk bv;simp
   rw [this,r,Aqf] at j
   split at j
   ·simpa using j
   ·cases j
end Go.Proofs.YtpjbjdheeemdiaaGreatDoor
namespace Go.Js
open Go
def fin {α:Type} (y:Out α):Prop:=(∃ a,y = .ok a [])\/y = .err 24 []
def Blk (b:BL):Prop:=∀ c∈b,Xw c=true
structure Sf {α:Type} (p:BL->Out α):Prop where
  suf:∀ {l a r},p l = .ok a r->r <:+l
  esuf:∀ {l e r},p l = .err e r->r <:+l/\(e=24↔r=[])
structure Pe (n:Nat) {α:Type} (p:BL->Out α):Prop where
  ext:∀ {x c r a},x.length<n->p (x++c::r) = .ok a (c::r)->∀ o,p (x++c::o) = .ok a (c::o)
  eext:∀ {x c r e},x.length<n->p (x++c::r) = .err e (c::r)->∀ o,p (x++c::o) = .err e (c::o)
  cutO:∀ {x c r a},x.length<n->p (x++c::r) = .ok a (c::r)->p x = .ok a []
  cutE:∀ {x c r e},x.length<n->p (x++c::r) = .err e (c::r)->fin (p x)
structure Pb (n:Nat) {α:Type} (s:Bool) (p:BL->Out α):Prop where
  bl:∀ {x b},x.length<n->x≠[]->p x = .err 24 []->Blk b->∃ e r,p (x++b) = .err e r/\r <:+b
  blo:∀ {x b a},x.length<n->x≠[]->p x = .ok a []->Blk b->∃ b',p (x++b) = .ok a b'/\b' <:+b/\(s=true->b'=b)
structure Bn {α:Type} (s:Bool) (p:BL->Out α):Prop where
  bl:∀ {b},p [] = .err 24 []->Blk b->∃ e r,p b = .err e r/\r <:+b
  blo:∀ {b a},p [] = .ok a []->Blk b->∃ b',p b = .ok a b'/\b' <:+b/\(s=true->b'=b)
structure St {α:Type} (k:Nat) (p:BL->Out α):Prop where
  len:∀ {l a r},p l = .ok a r->r.length+k<=l.length
theorem Blk.suf {b a:BL} (h:Blk b) (d:a <:+b):Blk a:=fun c e=>h c (d.subset e)
theorem Blk.tail {c:UInt8} {b:BL} (h:Blk (c::b)):Blk b:=fun d hd=>h d (by simp [hd])
theorem Zgo {c:UInt8} (h:Xw c=true):c=32\/c=9\/c=10\/c=13:=by
  simpa [Xw,or_assoc] using h
theorem Zsh {P:UInt8->Bool}:∀ {l:BL},l.dropWhile P=[]↔∀ c∈l,P c=true
  | []=>by simp
  | d::l=>by
    by_cases hd:P d=true
    ·rw [Ayi hd,Zsh (l:=l)]
     simp [hd]
    ·rw [Ayj hd]
     simp [hd]
theorem ZuC {x a w:BL} (c:w <:+a) (d:a <:+x++w):∃ z y,x=z++y/\a=y++w:=by
  obtain ⟨y,rfl⟩:=c
  obtain ⟨z,b⟩:=d
  refine ⟨z,y,?_,rfl⟩
  rw [<- Ayz] at b
  exact (List.append_cancel_right b).symm
theorem Sf.nil {α:Type} {p:BL->Out α} (h:Sf p):fin (p []):=by
  cases e:p [] with
  | ok a r=>have:=h.suf e;rw [List.suffix_nil] at this;subst this;exact .inl ⟨a,rfl⟩
  | err k r =>
    obtain ⟨a,b⟩:=h.esuf e
    rw [List.suffix_nil] at a
    subst a
    rw [b.2 rfl];exact .inr rfl
theorem Sf.st {α:Type} {p:BL->Out α} (h:Sf p):St 0 p:=⟨fun e=>(h.suf e).length_le⟩
theorem Pe.ok {n:Nat} {α:Type} {p:BL->Out α} (h:Pe n p) {z y w:BL} {a:α} (b:z.length<n) (c:y≠[]) (e:p (z++(y++w)) = .ok a (y++w)) (w':BL):p (z++(y++w')) = .ok a (y++w'):=by
  rcases y with _ | ⟨d,y⟩
  ·exact absurd rfl c
  ·exact h.ext b e (y++w')
section
variable {α β:Type} {p:BL->Out α} {f:α->BL->Out β}
theorem Sf.bind (hp:Sf p) (c:∀ a,Sf (f a)):Sf fun l=>(p l).bind f where
  suf:=fun h=>by
    obtain ⟨a,d,b,g⟩:=Yh h
    exact ((c a).suf g).trans (hp.suf b)
  esuf:=fun {l e r} h=>by
    cases b:p l with
    | ok a d =>
      rw [b] at h
      exact ⟨((c a).esuf h).1.trans (hp.suf b),((c a).esuf h).2⟩
    | err k q =>
      rw [b] at h
      cases h
      exact hp.esuf b
theorem St.bind {k m:Nat} (hp:St k p) (c:∀ a,St m (f a)):St (k+m) fun l=>(p l).bind f:=⟨fun {l b r} h=>by
  obtain ⟨a,g,d,e⟩:=Yh h
  have:=hp.len d
  have:=(c a).len e
  omega⟩
theorem Pe.bind {m k:Nat} (hp:Pe (m+k) p) (v:Sf p) (w:St k p) (s:∀ a,Pe m (f a)) (t:∀ a,Sf (f a)):Pe (m+k) fun l=>(p l).bind f where
  ext:=fun {x c r b} j h o=>by
    obtain ⟨a,u,g,i⟩:=Yh h
    obtain ⟨z,y,rfl,rfl⟩:=ZuC ((t a).suf i) (v.suf g)
    have n:=w.len g
    simp only [Awe,Aqj] at n j
    rcases y with _ | ⟨d,y⟩
    ·simp only [Ayt,Ayq] at g i ⊢
     rw [hp.ext (by omega) g o]
     exact (s a).ext (x:=[]) (by simp at j n ⊢;omega) i o
    ·rw [Ayz] at g ⊢
     rw [hp.ok (by omega) (by simp) g (c::o)]
     exact (s a).ext (by simp at j n ⊢;omega) i o
  eext:=fun {x c r e} j h o=>by
    cases g:p (x++c::r) with
    | err k q=>rw [g] at h;cases h;rw [hp.eext j g o];rfl
    | ok a u =>
      rw [g] at h
      have i:f a u = .err e (c::r):=h
      obtain ⟨z,y,rfl,rfl⟩:=ZuC ((t a).esuf i).1 (v.suf g)
      have n:=w.len g
      simp only [Awe,Aqj] at n j
      rcases y with _ | ⟨d,y⟩
      ·simp only [Ayt,Ayq] at g i ⊢
       rw [hp.ext (by omega) g o]
       exact (s a).eext (x:=[]) (by simp at j n ⊢;omega) i o
      ·rw [Ayz] at g ⊢
       rw [hp.ok (by omega) (by simp) g (c::o)]
       exact (s a).eext (by simp at j n ⊢;omega) i o
  cutO:=fun {x c r b} j h=>by
    obtain ⟨a,u,g,i⟩:=Yh h
    obtain ⟨z,y,rfl,rfl⟩:=ZuC ((t a).suf i) (v.suf g)
    have n:=w.len g
    simp only [Awe,Aqj] at n j
    rcases y with _ | ⟨d,y⟩
    ·simp only [Ayt,Ayq] at g i ⊢
     rw [hp.cutO (by omega) g]
     exact (s a).cutO (x:=[]) (by simp at j n ⊢;omega) i
    ·rw [Ayz] at g
     have:=hp.ok (by omega) (by simp) g []
     rw [Ayt] at this
     rw [this]
     exact (s a).cutO (by simp at j n ⊢;omega) i
  cutE:=fun {x c r e} j h=>by
    cases g:p (x++c::r) with
    | err k q =>
      rw [g] at h;cases h
      rcases hp.cutE j g with ⟨a,A⟩ | A
      ·rw [A];exact (t a).nil
      ·rw [A];exact .inr rfl
    | ok a u =>
      rw [g] at h
      have i:f a u = .err e (c::r):=h
      obtain ⟨z,y,rfl,rfl⟩:=ZuC ((t a).esuf i).1 (v.suf g)
      have n:=w.len g
      simp only [Awe,Aqj] at n j
      rcases y with _ | ⟨d,y⟩
      ·simp only [Ayt,Ayq] at g i ⊢
       rw [hp.cutO (by omega) g]
       exact (t a).nil
      ·rw [Ayz] at g
       have:=hp.ok (by omega) (by simp) g []
       rw [Ayt] at this
       rw [this]
       exact (s a).cutE (by simp at j n ⊢;omega) i
theorem Bn.bind {s s':Bool} (hp:Bn s p) (n:Sf p) (o:∀ a,Bn s' (f a)):Bn (s&&s') fun l=>(p l).bind f where
  bl:=fun {b} h g=>by
    rcases n.nil with ⟨a,d⟩ | d
    ·rw [d] at h
     obtain ⟨q,e,c,_⟩:=hp.blo d g
     rw [e]
     obtain ⟨k,r,i,j⟩:=(o a).bl h (g.suf c)
     exact ⟨k,r,i,j.trans c⟩
    ·obtain ⟨k,r,i,j⟩:=hp.bl d g
     rw [i];exact ⟨k,r,rfl,j⟩
  blo:=fun {b u} h g=>by
    rcases n.nil with ⟨a,d⟩ | d
    ·rw [d] at h
     obtain ⟨q,e,c,f1⟩:=hp.blo d g
     rw [e]
     obtain ⟨t,i,j,f2⟩:=(o a).blo h (g.suf c)
     refine ⟨t,i,j.trans c,fun m=>?_⟩
     simp only [Awn] at m
     rw [f2 m.2,f1 m.1]
    ·rw [d] at h;cases h
theorem Pb.bind {m k:Nat} {s s':Bool} (he:Pe (m+k) p) (hp:Pb (m+k) s p) (D:Sf p) (E:St k p) (F:∀ a,Pb m s' (f a)) (G:∀ a,Bn s' (f a)):Pb (m+k) (s&&s') fun l=>(p l).bind f where
  bl:=fun {x b} t i h j=>by
    cases c:p x with
    | err e q =>
      rw [c] at h;cases h
      obtain ⟨k,r,n,o⟩:=hp.bl t i c j
      rw [n];exact ⟨k,r,rfl,o⟩
    | ok a v =>
      rw [c] at h
      have o:f a v = .err 24 []:=h
      have B:=E.len c
      rcases v with _ | ⟨d,y⟩
      ·obtain ⟨H,e,g,_⟩:=hp.blo t i c j
       rw [e]
       obtain ⟨k,r,n,A⟩:=(G a).bl o (j.suf g)
       exact ⟨k,r,n,A.trans g⟩
      ·obtain ⟨z,rfl⟩:=D.suf c
       simp only [Awe] at t B
       have:=he.ok (z:=z) (w:=[]) (y:=d::y) (by omega) (by simp) (by simpa using c) b
       rw [Ayz,this]
       exact (F a).bl (x:=d::y) (by omega) (by simp) o j
  blo:=fun {x b I} t i h j=>by
    cases c:p x with
    | err e q=>rw [c] at h;cases h
    | ok a v =>
      rw [c] at h
      have o:f a v = .ok I []:=h
      have B:=E.len c
      rcases v with _ | ⟨d,y⟩
      ·obtain ⟨H,e,g,f1⟩:=hp.blo t i c j
       rw [e]
       obtain ⟨C,n,A,f2⟩:=(G a).blo o (j.suf g)
       refine ⟨C,n,A.trans g,fun u=>?_⟩
       simp only [Awn] at u
       rw [f2 u.2,f1 u.1]
      ·obtain ⟨z,rfl⟩:=D.suf c
       simp only [Awe] at t B
       have:=he.ok (z:=z) (w:=[]) (y:=d::y) (by omega) (by simp) (by simpa using c) b
       rw [Ayz,this]
       obtain ⟨C,n,A,f2⟩:=(F a).blo (x:=d::y) (by omega) (by simp) o j
       exact ⟨C,n,A,fun u=>f2 (by simp only [Awn] at u;exact u.2)⟩
end
def hdP {α:Type} (a:Out α) (f:UInt8->BL->Out α):BL->Out α
  | []=>a
  | c::l=>f c (c::l)
def tlP {α:Type} (g:BL->Out α):BL->Out α
  | []=> .err 24 []
  | _::l=>g l
def okP {α:Type} (a:α):BL->Out α:=fun l=> .ok a l
section
variable {α:Type} {n:Nat}
theorem ZCu {e:Out α} {f:UInt8->BL->Out α} (d:fin e) (g:∀ c,Sf (f c)):Sf (hdP e f) where
  suf:=fun {l a r} h=>by
    rcases l with _ | ⟨c,l⟩
    ·rcases d with ⟨b,d⟩ | d<;>(rw [show hdP e f []=e from rfl,d] at h;cases h)
     exact Ayg _
    ·exact (g c).suf h
  esuf:=fun {l a r} h=>by
    rcases l with _ | ⟨c,l⟩
    ·rcases d with ⟨b,d⟩ | d<;>(rw [show hdP e f []=e from rfl,d] at h;cases h)
     simp
    ·exact (g c).esuf h
theorem ZuP {i:Out α} {f:UInt8->BL->Out α} (e:i = .err 24 []\/∃ a,i = .ok a []/\∀ c r b,f c (c::r) = .ok b (c::r)->b=a) (k:(∀ c r b,f c (c::r) = .ok b (c::r)->i≠ .err 24 [])) (j:∀ c,Pe n (f c)):Pe n (hdP i f) where
  ext:=fun {x c r a} g h o=>by
    rcases x with _ | ⟨d,x⟩
    ·exact (j c).ext (x:=[]) g h o
    ·exact (j d).ext g h o
  eext:=fun {x c r a} g h o=>by
    rcases x with _ | ⟨d,x⟩
    ·exact (j c).eext (x:=[]) g h o
    ·exact (j d).eext g h o
  cutO:=fun {x c r a} g h=>by
    rcases x with _ | ⟨d,x⟩
    ·rcases e with e | ⟨b,e,l⟩
     ·exact absurd e (k c r a h)
     ·rw [show hdP i f []=i from rfl,e,l c r a h]
    ·exact (j d).cutO g h
  cutE:=fun {x c r a} g h=>by
    rcases x with _ | ⟨d,x⟩
    ·rcases e with e | ⟨b,e,_⟩
     ·exact .inr e
     ·exact .inl ⟨b,e⟩
    ·exact (j d).cutE g h
theorem ZuQ {s:Bool} {k:Out α} {f:UInt8->BL->Out α} (j:∀ c,Pb n s (f c)):Pb n s (hdP k f) where
  bl:=fun {x b} g e h i=>by
    rcases x with _ | ⟨d,x⟩
    ·exact absurd rfl e
    ·exact (j d).bl g e h i
  blo:=fun {x b a} g e h i=>by
    rcases x with _ | ⟨d,x⟩
    ·exact absurd rfl e
    ·exact (j d).blo g e h i
theorem ZG5 {s:Bool} {f:UInt8->BL->Out α} (a:∀ c,Xw c=true->∃ e,f c=ZaW e):Bn s (hdP (.err 24 []) f) where
  bl:=fun {b} _ d=>by
    rcases b with _ | ⟨c,b⟩
    ·exact ⟨24,[],rfl,Ayg _⟩
    ·obtain ⟨e,he⟩:=a c (d c (by simp))
     exact ⟨e,c::b,by rw [show hdP (.err 24 []) f (c::b)=f c (c::b) from rfl,he];rfl,Ayg _⟩
  blo:=fun h=>by cases h
theorem ZEW {s:Bool} {a0:α} {f:UInt8->BL->Out α} (d:∀ c,Xw c=true->f c=okP a0):Bn s (hdP (.ok a0 []) f) where
  bl:=fun h=>by cases h
  blo:=fun {b a} h e=>by
    cases h
    rcases b with _ | ⟨c,b⟩
    ·exact ⟨[],rfl,Ayg _,fun _=>rfl⟩
    ·exact ⟨c::b,by rw [show hdP (.ok a0 []) f (c::b)=f c (c::b) from rfl,d c (e c (by simp))];rfl,Ayg _,fun _=>rfl⟩
theorem Zm9 {b:Out α} {f:UInt8->BL->Out α} {k:Nat} (d:∀ a r,b = .ok a r->r.length+k<=0) (e:∀ c,St k (f c)):St k (hdP b f):=⟨fun {l a r} h=>by
  rcases l with _ | ⟨c,l⟩
  ·exact d a r h
  ·exact (e c).len h⟩
theorem ZGu {g:BL->Out α} (b:Sf g):Sf (tlP g) where
  suf:=fun {l a r} h=>by
    rcases l with _ | ⟨c,l⟩
    ·cases h
    ·exact ZbH (b.suf h)
  esuf:=fun {l a r} h=>by
    rcases l with _ | ⟨c,l⟩
    ·cases h;simp
    ·exact ⟨ZbH (b.esuf h).1,(b.esuf h).2⟩
theorem ZbZ {g:BL->Out α} {k:Nat} (b:St k g):St (k+1) (tlP g):=⟨fun {l a r} h=>by
  rcases l with _ | ⟨c,l⟩
  ·cases h
  ·have:=b.len (l:=l) h;simp;omega⟩
theorem Zjb {P:Prop} {c:UInt8} {r l:BL} (h:c::r <:+l) (a:l.length<=r.length):P:=by
  have:=h.length_le;simp at this;omega
theorem Zov {g:BL->Out α} (e:Sf g) (f:Pe n g):Pe (n+1) (tlP g) where
  ext:=fun {x c r a} b h o=>by
    rcases x with _ | ⟨d,x⟩
    ·exact Zjb (e.suf (l:=r) h) (Aqo _)
    ·exact f.ext (by simpa using b) h o
  eext:=fun {x c r a} b h o=>by
    rcases x with _ | ⟨d,x⟩
    ·exact Zjb (e.esuf (l:=r) h).1 (Aqo _)
    ·exact f.eext (by simpa using b) h o
  cutO:=fun {x c r a} b h=>by
    rcases x with _ | ⟨d,x⟩
    ·exact Zjb (e.suf (l:=r) h) (Aqo _)
    ·exact f.cutO (by simpa using b) h
  cutE:=fun {x c r a} b h=>by
    rcases x with _ | ⟨d,x⟩
    ·exact Zjb (e.esuf (l:=r) h).1 (Aqo _)
    ·exact f.cutE (by simpa using b) h
theorem Zow {s:Bool} {g:BL->Out α} (i:Pb n s g) (j:Bn s g):Pb (n+1) s (tlP g) where
  bl:=fun {x b} f c h e=>by
    rcases x with _ | ⟨d,_ | ⟨d2,x⟩⟩
    ·exact absurd rfl c
    ·exact j.bl h e
    ·exact i.bl (x:=d2::x) (by simpa using f) (by simp) h e
  blo:=fun {x b a} f c h e=>by
    rcases x with _ | ⟨d,_ | ⟨d2,x⟩⟩
    ·exact absurd rfl c
    ·exact j.blo h e
    ·exact i.blo (x:=d2::x) (by simpa using f) (by simp) h e
theorem Zys (a:α):Sf (okP a):=⟨fun h=>by cases h;exact Ayg _,fun h=>by cases h⟩
theorem Zyt (a:α):Pe n (okP a) where
  ext:=fun {x c r b} _ h o=>by
    cases x with
    | nil=>cases h;rfl
    | cons d x=>injection h with f e;have:=congrArg List.length e;simp at this;omega
  eext:=fun _ h=>by cases h
  cutO:=fun {x c r b} _ h=>by
    cases x with
    | nil=>cases h;rfl
    | cons d x=>injection h with f e;have:=congrArg List.length e;simp at this;omega
  cutE:=fun _ h=>by cases h
theorem Zyu (s:Bool) (a:α):Pb n s (okP a) where
  bl:=fun _ _ h=>by cases h
  blo:=fun {x b e} _ c h=>by injection h with f d;exact absurd d c
theorem Zyv (s:Bool) (a:α):Bn s (okP a) where
  bl:=fun h=>by cases h
  blo:=fun {b c} h _=>by cases h;exact ⟨b,rfl,Ayg _,fun _=>rfl⟩
theorem Zic (a:α):St 0 (okP a):=⟨fun h=>by cases h;exact Aqo _⟩
theorem ZBy {e:Nat} (he:e≠24):Sf (ZaW e:BL->Out α) where
  suf:=fun {l a r} h=>by cases l<;>cases h
  esuf:=fun {l a r} h=>by
    cases l with
    | nil=>cases h;simp
    | cons c l=>cases h;simp [he]
theorem ZqE {e:Nat}:Pe n (ZaW e:BL->Out α) where
  ext:=fun {x c r a} _ h=>by cases x<;>cases h
  eext:=fun {x c r a} _ h o=>by
    cases x with
    | nil=>cases h;rfl
    | cons d x=>injection h with f b;have:=congrArg List.length b;simp at this;omega
  cutO:=fun {x c r a} _ h=>by cases x<;>cases h
  cutE:=fun {x c r a} _ h=>by
    cases x with
    | nil=>exact .inr rfl
    | cons d x=>injection h with f b;have:=congrArg List.length b;simp at this;omega
theorem ZqF {s:Bool} {e:Nat} (he:e≠24):Pb n s (ZaW e:BL->Out α) where
  bl:=fun {x b} _ c h=>by
    cases x with
    | nil=>exact absurd rfl c
    | cons d x=>injection h with f g;exact absurd f he
  blo:=fun {x b a} _ c h=>by cases x<;>cases h
theorem Zbj {k:Nat} {e:Nat}:St k (ZaW e:BL->Out α):=⟨fun {l a r} h=>by cases l<;>cases h⟩
end
def Zd6 (P:UInt8->Bool):BL->Out Unit:=fun l=> .ok () (l.dropWhile P)
theorem ZqJ (P:UInt8->Bool):Sf (Zd6 P):=⟨fun h=>by cases h;exact Ayf _,fun h=>by cases h⟩
theorem ZkA (P:UInt8->Bool):St 0 (Zd6 P):=(ZqJ P).st
theorem Zu5 {P:UInt8->Bool} {x w:BL} (h:(x++w).dropWhile P=w):∀ c∈x,P c=true:=by
  induction x with
  | nil=>intro c a;cases a
  | cons d x b =>
    by_cases hd:P d=true
    ·rw [Ayp,Ayi hd] at h
     intro c a
     rcases Awr.1 a with rfl | a
     ·exact hd
     ·exact b h c a
    ·rw [Ayp,Ayj hd] at h
     have:=congrArg List.length h
     simp at this
     omega
theorem Zu7 {n:Nat} (P:UInt8->Bool):Pe n (Zd6 P) where
  ext:=fun {x c r a} _ h o=>by
    injection h with _ h
    have d:=Zu5 h
    rw [Aza d] at h
    have b:¬ P c=true:=by
      intro b
      rw [Ayi b] at h
      have:=(Ayf (l:=r) P).length_le
      rw [h] at this;simp at this;omega
    unfold Zd6
    rw [Aza d,Ayj b]
  eext:=fun _ h=>by cases h
  cutO:=fun {x c r a} _ h=>by
    injection h with _ h
    unfold Zd6
    rw [Zsh.2 (Zu5 h)]
  cutE:=fun _ h=>by cases h
theorem ZBG {n:Nat} (P:UInt8->Bool):Pb n false (Zd6 P) where
  bl:=fun _ _ h=>by cases h
  blo:=fun {x b a} _ _ h _=>by
    injection h with _ h
    refine ⟨b.dropWhile P,?_,Ayf _,fun h=>by cases h⟩
    unfold Zd6
    rw [Aza (Zsh.1 h)]
theorem ZBH (P:UInt8->Bool):Bn false (Zd6 P) where
  bl:=fun h=>by cases h
  blo:=fun {b a} h _=>⟨b.dropWhile P,rfl,Ayf _,fun h=>by cases h⟩
theorem Zzt {n:Nat}:Pb n true (Zd6 ZbS) where
  bl:=fun _ _ h=>by cases h
  blo:=fun {x b a} _ _ h d=>by
    injection h with _ h
    refine ⟨b,?_,Ayg _,fun _=>rfl⟩
    unfold Zd6
    rw [Aza (Zsh.1 h)]
    rcases b with _ | ⟨c,b⟩
    ·rfl
    ·rw [Ayj]
     rcases Zgo (d c (by simp)) with rfl | rfl | rfl | rfl<;>decide
theorem Zzu:Bn true (Zd6 ZbS) where
  bl:=fun h=>by cases h
  blo:=fun {b a} h d=>by
    refine ⟨b,?_,Ayg _,fun _=>rfl⟩
    unfold Zd6
    rcases b with _ | ⟨c,b⟩
    ·rfl
    ·rw [Ayj]
     rcases Zgo (d c (by simp)) with rfl | rfl | rfl | rfl<;>decide
def Zhn {α:Type} (p:BL->Out α):BL->Out BL:=fun l=>(p l).bind fun _ r=> .ok (upto l r) r
theorem Zc0 (x r:BL):upto (x++r) r=x:=by unfold upto;simp
theorem ZiD {α:Type} {p:BL->Out α} {l r t:BL} (h:Zhn p l = .ok t r):(∃ a,p l = .ok a r)/\t=upto l r:=by
  obtain ⟨a,d,b,c⟩:=Yh h
  cases c
  exact ⟨⟨a,b⟩,rfl⟩
theorem Zjd {α:Type} {p:BL->Out α} {l r:BL} {e:Nat} (h:Zhn p l = .err e r):p l = .err e r:=by
  unfold Zhn at h
  cases b:p l with
  | ok a c=>rw [b] at h;cases h
  | err k q=>rw [b] at h;cases h;rfl
theorem Ztv {α:Type} {p:BL->Out α} (hp:Sf p):Sf (Zhn p) :=
  ⟨fun h=>by obtain ⟨⟨a,b⟩,_⟩:=ZiD h;exact hp.suf b,fun h=>hp.esuf (Zjd h)⟩
theorem ZqA {α:Type} {k:Nat} {p:BL->Out α} (hp:St k p):St k (Zhn p):=⟨fun h=>by obtain ⟨⟨a,b⟩,_⟩:=ZiD h;exact hp.len b⟩
theorem Ztw {α:Type} {n:Nat} {p:BL->Out α} (hp:Pe n p):Pe n (Zhn p) where
  ext:=fun {x c r t} b h o=>by
    obtain ⟨⟨a,d⟩,rfl⟩:=ZiD h
    unfold Zhn
    rw [hp.ext b d o,Out.bind_ok,Zc0,Zc0]
  eext:=fun {x c r e} b h o=>by
    unfold Zhn
    rw [hp.eext b (Zjd h) o];rfl
  cutO:=fun {x c r t} b h=>by
    obtain ⟨⟨a,d⟩,rfl⟩:=ZiD h
    unfold Zhn
    rw [hp.cutO b d,Out.bind_ok,Zc0]
    congr 1
    have:=Zc0 x []
    rwa [Ayt] at this
  cutE:=fun {x c r e} b h=>by
    unfold Zhn
    rcases hp.cutE b (Zjd h) with ⟨a,d⟩ | d
    ·rw [d];exact .inl ⟨_,rfl⟩
    ·rw [d];exact .inr rfl
theorem Zza {α:Type} {n:Nat} {p:BL->Out α} (hp:Pb n true p):Pb n true (Zhn p) where
  bl:=fun {x b} d c h f=>by
    obtain ⟨e,r,g,i⟩:=hp.bl d c (Zjd h) f
    exact ⟨e,r,by unfold Zhn;rw [g];rfl,i⟩
  blo:=fun {x b t} d c h f=>by
    obtain ⟨⟨a,g⟩,rfl⟩:=ZiD h
    obtain ⟨k,i,l,j⟩:=hp.blo d c g f
    have:=j rfl
    subst this
    refine ⟨k,?_,l,j⟩
    unfold Zhn
    rw [i,Out.bind_ok,Zc0]
    have:=Zc0 x []
    rw [Ayt] at this
    rw [this]
theorem ZE5 {α:Type} {p:BL->Out α} (hp:Bn true p):Bn true (Zhn p) where
  bl:=fun {b} h c=>by
    obtain ⟨e,r,d,f⟩:=hp.bl (Zjd h) c
    exact ⟨e,r,by unfold Zhn;rw [d];rfl,f⟩
  blo:=fun {b t} h c=>by
    obtain ⟨⟨a,d⟩,rfl⟩:=ZiD h
    obtain ⟨i,f,j,g⟩:=hp.blo d c
    have:=g rfl
    subst this
    refine ⟨i,?_,j,g⟩
    unfold Zhn
    rw [f,Out.bind_ok]
    simp [upto]
end Go.Js
