/- From a law's model to the call: it returns true, and what was there is as it was. -/
import Derived.Below
import Derived.Lib.ValidLaws
import Derived.Lib.RuneCount
import Derived.Test.YtpjbjdheeemdiaaGreatDoorPa8
set_option linter.unusedVariables false
set_option linter.unusedSimpArgs false
namespace Go.Fw
open Go Go.RowKit
theorem Zxr {P:Program} {f:FuncId} {s:Zd} (ok:Zj P f s) (t:Xw s.args) (w:World) {args:Array Value} (hargs:((Xw.evs s.args t).map EV.v).toArray=args)
    (h:s.sem t (fun r h'=>ZAB s.res r = .bool true/\Ext w.heap h') (fun _ _=>False) w.heap):Calls P f args w fun e w'=>e = .returned (.bool true)/\Below w.heap.size w w':=by
  rw [<- hargs]
  refine (ok.calls t _ _ w h).mono ?_
  rintro e w' (⟨r,rfl,hs,hr,hx⟩ | ⟨v,rfl,hs,hk⟩)
  ·exact ⟨by rw [hr],hs.2.1,hs.1,hs.2.2,hx.size,hx.old⟩
  ·exact hk.elim
end Go.Fw
namespace Go.Fw
open Go
def obj (h:Zc) (b:Nat):Option Obj:=h[b]?
def sz (h:Zc):Nat:=h.size
theorem ZCF {h:Zc} {x:Obj}:sz (h.push x)=sz h+1:=by unfold sz;simp
theorem ZET {h:Zc} {b o:Nat} {v:Value}:sz (h.put b o v)=sz h:=by unfold sz;exact ZkG
def Zsr (o:Nat) (v:Value):Option Obj->Option Obj
  | some (.cells c e f)=>some (.cells (c.setIfInBounds o v) e f)
  | x=>x
theorem Zkd {o:Nat} {v:Value} {l:List Value} {e:TypeId} {f:Nat × Nat}:Zsr o v (some (.cells l.toArray e f))=some (.cells (l.set o v).toArray e f):=by
  simp [Zsr]
theorem Zrc {h:Zc} {b o k:Nat} {v:Value}:obj (h.put b o v) k=if k=b then Zsr o v (obj h k) else obj h k:=by
  unfold obj Zc.put
  rw [Aqi]
  by_cases hk:b=k
  ·subst hk
   rw [if_pos rfl,if_pos rfl]
   cases h[b]? with
   | none=>rfl
   | some x=>cases x<;>rfl
  ·rw [if_neg hk,if_neg (Ne.symm hk)]
def ZbA (o:Nat):Option Obj->Option Value
  | some (.cells c _ _)=>c[o]?
  | _=>none
def Zol (o:Nat):Option Obj->Bool
  | some (.cells c _ f)=>decide (o<c.size)&&(f.1 ==0&&f.2 ==0)
  | _=>false
theorem Zom {o:Nat} {l:List Value} {e:TypeId} {f:Nat × Nat}:ZbA o (some (.cells l.toArray e f))=l[o]?:=by simp [ZbA]
theorem X6 {h:Zc} {b o:Nat}:h.cell b o=ZbA o (obj h b):=by unfold Zc.cell obj ZbA;rfl
theorem ZxK {h:Zc} {b o:Nat} (hf:Zol o (obj h b)=true):(∃ u,h.cell b o=some u)/\h.froz b o=false:=by
  unfold Zol at hf
  split at hf
  ·rename_i c e f hb
   simp only [Awn,decide_eq_true_eq,beq_iff_eq] at hf
   obtain ⟨h1,h2,h3⟩:=hf
   have hb':h[b]?=some (.cells c e f):=hb
   refine ⟨⟨c[o],by unfold Zc.cell;rw [hb'];simp [h1]⟩,?_⟩
   unfold Zc.froz
   rw [hb']
   obtain ⟨lo,hi⟩:=f
   simp only at h2 h3
   subst h2 h3
   simp
  ·cases hf
theorem ZFk {h:Zc} {b o:Nat} {k:IntKind} {n:Int} {K:Int->Prop} (hc:ZbA o (obj h b)=some (.int k n)):ldI h b o k K=K n :=
  propext ⟨fun ⟨m,e,hk⟩=>(by rw [X6,hc] at e;cases e;exact hk),fun hk=>⟨n,by rw [X6,hc],hk⟩⟩
theorem ZFh {h:Zc} {b o:Nat} {n:ByteArray} {K:ByteArray->Prop} (hc:ZbA o (obj h b)=some (.string n)):ldS h b o K=K n :=
  propext ⟨fun ⟨m,e,hk⟩=>(by rw [X6,hc] at e;cases e;exact hk),fun hk=>⟨n,by rw [X6,hc],hk⟩⟩
theorem ZFi {h:Zc} {b o:Nat} {n:Option Addr} {K:Option Addr->Prop} (hc:ZbA o (obj h b)=some (.pointer n)):ldP h b o K=K n :=
  propext ⟨fun ⟨m,e,hk⟩=>(by rw [X6,hc] at e;cases e;exact hk),fun hk=>⟨n,by rw [X6,hc],hk⟩⟩
theorem ZFg {h:Zc} {b o:Nat} {n:Value} {K:Value->Prop} (hc:ZbA o (obj h b)=some n):ldV h b o K=K n :=
  propext ⟨fun ⟨m,e,hk⟩=>(by rw [X6,hc] at e;cases e;exact hk),fun hk=>⟨n,by rw [X6,hc],hk⟩⟩
theorem ZFj {h:Zc} {b o:Nat} {p:Option Addr} {l c:Nat} {K:Sl->Prop} (hc:ZbA o (obj h b)=some (.slice p l c)):ldL h b o K=K ⟨p,l,c⟩ :=
  propext ⟨fun ⟨m,e,hk⟩=>(by rw [X6,hc] at e;cases e;exact hk),fun hk=>⟨⟨p,l,c⟩,by rw [X6,hc],hk⟩⟩
theorem ZsQ {h:Zc} {b:Nat}:∀ (n o:Nat),(∀ i,i<n->Zol (o+i) (obj h b)=true)->h.free b o n
  | 0,_,_=>trivial
  | n+1,o,hf=>⟨ZxK (by have:=hf 0 (by omega);simpa using this),ZsQ n (o+1) fun i hi=>by have:=hf (i+1) (by omega);rw [show o+1+i=o+(i+1) from by omega];exact this⟩
def ZxL (o n:Nat):Option Obj->Bool
  | some (.cells c _ f)=>decide (o+n<=c.size)&&(f.1 ==0&&f.2 ==0)
  | _=>false
theorem Zfz {o n:Nat} {l:List Value} {e:TypeId}:ZxL o n (some (.cells l.toArray e (0,0)))=decide (o+n<=l.length):=by simp [ZxL]
theorem ZzP {h:Zc} {b o n:Nat} (hf:ZxL o n (obj h b)=true):h.free b o n:=by
  refine ZsQ n o fun i hi=>?_
  unfold ZxL at hf
  split at hf
  ·rename_i c e f hb
   rw [hb]
   simp only [Awn,decide_eq_true_eq] at hf
   simp only [Zol,Awn,decide_eq_true_eq]
   exact ⟨by omega,hf.2⟩
  ·cases hf
theorem Zpq {h:Zc} {b o:Nat} {vs:List Value} {K:Zc->Prop} (hf:ZxL o vs.length (obj h b)=true) (hv:vs.all Yc=true):sts h b o vs K=K (h.puts b o vs) :=
  propext ⟨fun hk=>hk.2.2,fun hk=>⟨ZzP hf,hv,hk⟩⟩
theorem Ziv {h:Zc} {b o:Nat} {vs:List Value}:sz (h.puts b o vs)=sz h:=Zjb
def Zlp:Nat->List Value->Option Obj->Option Obj
  | _,[],x=>x
  | o,v::vs,x=>Zlp (o+1) vs (Zsr o v x)
def Za8:Nat->List Value->List Value->List Value
  | _,[],l=>l
  | o,v::vs,l=>Za8 (o+1) vs (l.set o v)
theorem Zbz {e:TypeId} {f:Nat × Nat}:∀ {vs:List Value} {o:Nat} {l:List Value},Zlp o vs (some (.cells l.toArray e f))=some (.cells (Za8 o vs l).toArray e f)
  | [],_,_=>rfl
  | v::vs,o,l=>by unfold Zlp Za8;rw [Zkd,Zbz]
theorem ZdE {b:Nat}:∀ {vs:List Value} {h:Zc} {o k:Nat},obj (h.puts b o vs) k=if k=b then Zlp o vs (obj h k) else obj h k
  | [],h,o,k=>by
    unfold Zc.puts Zlp
    split<;>rfl
  | v::vs,h,o,k=>by
    unfold Zc.puts
    rw [ZdE,Zrc]
    by_cases hk:k=b
    ·rw [if_pos hk,if_pos hk,if_pos hk];rfl
    ·rw [if_neg hk,if_neg hk,if_neg hk]
theorem ZlC {b o l size:Nat} {i:Int} {n:Nat} {K:Nat->Nat->Prop} (hi:i=(n:Int)) (hl:n<l) (hk:K b (o+n*size)):ZcM (some ⟨b,o,none⟩) l i size K:=by
  subst hi
  exact ⟨b,o,rfl,by omega,by omega,by simpa using hk⟩
theorem ZfT {k:IntKind} {n:Int}:Yc (.int k n)=true:=by simp [Yc]
theorem Zsp {b:Option Addr} {l c:Nat}:Yc (.slice b l c)=true:=by simp [Yc]
theorem Zq {h h':Zc} (e:Ext h h') {b:Nat} (hb:b<sz h):obj h' b=obj h b:=e.old b hb
theorem Zo {S:Nat->Prop} {h h':Zc} (e:Upd S h h') {b:Nat} (hb:b<sz h) (hs:¬ S b):obj h' b=obj h b:=e.old b hb hs
theorem Zy2 {S:Nat->Prop} {h h1:Zc} {b o:Nat} {vs:List Value} (he:Upd S h h1) (hb:sz h<=b\/S b):Upd S h (h1.puts b o vs) :=
  ⟨by rw [Zjb];exact he.size,fun k hk hs=>(ZjO fun e=>by subst e;exact hb.elim (fun h9=>by unfold sz at h9;omega) hs).trans (he.old k hk hs)⟩
theorem ZaJ {h:Zc} {b:Nat} {x:Obj} (hb:obj h b=some x):b<sz h:=by
  unfold obj at hb
  rcases Aqd b h.size with hl | hl
  ·exact hl
  ·rw [Aqe hl] at hb;cases hb
theorem Zl {h h':Zc} {b:Nat} {x:Obj} (hb:obj h b=some x) (e:Ext h h'):obj h' b=some x:=(Zq e (ZaJ hb)).trans hb
theorem ZB {S:Nat->Prop} {h h':Zc} {b:Nat} {x:Obj} (hb:obj h b=some x) (e:Upd S h h') (hs:¬ S b):obj h' b=some x:=(Zo e (ZaJ hb) hs).trans hb
theorem Ext.updS {h h1 h2:Zc} {S:Nat->Prop} (e:Ext h h1) (u:Upd S h1 h2) (hs:∀ k,S k->sz h<=k):Ext h h2:=e.then u fun k hk=>hs k hk
end Go.Fw
namespace Go.Js
open Go
abbrev BL:=List UInt8
inductive JL where
  | nil
  | cons (k:Nat) (t:BL) (ns:List BL) (sub rest:JL)
deriving DecidableEq
structure JV where
  k:Nat
  t:BL
  ns:List BL
  sub:JL
deriving DecidableEq
namespace JL
def len:JL->Nat
  | nil=>0
  | cons _ _ _ _ r=>r.len+1
def snoc (v:JV):JL->JL
  | nil=>cons v.k v.t v.ns v.sub nil
  | cons k t ns s r=>cons k t ns s (r.snoc v)
def isNil:JL->Bool
  | nil=>true
  | _=>false
theorem len_snoc (v:JV):∀ l:JL,(l.snoc v).len=l.len+1
  | nil=>rfl
  | cons _ _ _ _ r=>by simp [snoc,len,len_snoc v r]
theorem ZC8 {l:JL}:l.len=0↔l=nil:=by cases l<;>simp [len]
end JL
inductive Out (α:Type) where
  | ok (a:α) (r:BL)
  | err (e:Nat) (r:BL)
def Out.bind {α β:Type}:Out α->(α->BL->Out β)->Out β
  | .ok a r,f=>f a r
  | .err e r,_=> .err e r
@[simp] theorem Out.bind_ok {α β:Type} (a:α) (r:BL) (f:α->BL->Out β):(Out.ok a r).bind f=f a r:=rfl
@[simp] theorem Out.bind_err {α β:Type} (e:Nat) (r:BL) (f:α->BL->Out β):(Out.err e r:Out α).bind f = .err e r:=rfl
def Za1 {α:Type} (e:Nat):BL->Out α
  | []=> .err 24 []
  | c::l=> .err e (c::l)
def XJ (c:UInt8):Bool:=c ==32||c ==9||c ==10||c ==13
def ZdP (c:UInt8):Bool:=decide (48<=c.toNat)&&decide (c.toNat<=57)
def Za3 (l:BL):BL:=l.dropWhile XJ
def ZfD:BL->BL->Out Unit
  | [],l=> .ok () l
  | c::w,d::l=>if d=c then ZfD w l else .err 20 (d::l)
  | _::_,[]=> .err 24 []
def Zay:BL->Out Unit
  | c::l=>if ZdP c then .ok () (l.dropWhile ZdP) else .err 21 (c::l)
  | []=> .err 24 []
def Zgq:BL->BL
  | c::l=>if c=45 then l else c::l
  | []=>[]
def Zn0:BL->BL
  | c::l=>if c=43\/c=45 then l else c::l
  | []=>[]
def ZeE:BL->Out Unit
  | c::l=>if ZdP c then .err 21 (c::l) else .ok () (c::l)
  | []=> .ok () []
def ZpU:BL->Out Unit
  | c::l=>if c=48 then ZeE l else Zay (c::l)
  | []=> .err 24 []
def Zkx:BL->Out Unit
  | c::l=>if c=46 then Zay l else .ok () (c::l)
  | []=> .ok () []
def ZoD:BL->Out Unit
  | c::l=>if c=101\/c=69 then Zay (Zn0 l) else .ok () (c::l)
  | []=> .ok () []
def Zm1 (l:BL):Out Unit:=(ZpU (Zgq l)).bind fun _ l1=>(Zkx l1).bind fun _ l2=>ZoD l2
def upto (l r:BL):BL:=l.take (l.length - r.length)
def ZoU (c:UInt8):Option Nat :=
  if 48<=c.toNat/\c.toNat<=57 then some (c.toNat - 48)
  else if 97<=c.toNat/\c.toNat<=102 then some (c.toNat - 87)
  else if 65<=c.toNat/\c.toNat<=70 then some (c.toNat - 55)
  else none
def ZiI:Nat->Nat->BL->Out Nat
  | 0,n,l=> .ok n l
  | _+1,_,[]=> .err 24 []
  | k+1,n,c::l=>match ZoU c with
    | some d=>ZiI k (n*16+d) l
    | none=> .err 22 (c::l)
def Zhr (n:Nat):BL :=
  if n<128 then [UInt8.ofNat n]
  else if n<2048 then [UInt8.ofNat (192+n / 64),UInt8.ofNat (128+n % 64)]
  else if n<65536 then [UInt8.ofNat (224+n / 4096),UInt8.ofNat (128+n / 64 % 64),UInt8.ofNat (128+n % 64)]
  else [UInt8.ofNat (240+n / 262144),UInt8.ofNat (128+n / 4096 % 64),UInt8.ofNat (128+n / 64 % 64),UInt8.ofNat (128+n % 64)]
def Zmp (n:Nat):Nat:=if 55296<=n/\n<57344 then 65533 else n
def Zhi (c:UInt8):Option UInt8 :=
  if c=34 then some 34 else if c=92 then some 92 else if c=47 then some 47 else if c=98 then some 8 else if c=102 then some 12 else if c=110 then some 10 else if c=114 then some 13 else if c=116 then some 9 else none
def Zdn:BL->Option BL
  | a::b::l=>if a=92/\b=117 then some l else none
  | _=>none
def ZEJ (l:BL):Out BL:=(ZiI 4 0 l).bind fun n l1 =>
  match (if 55296<=n/\n<56320 then Zdn l1 else none) with
  | some l2=>(ZiI 4 0 l2).bind fun m l3=>if 56320<=m/\m<57344 then .ok (Zhr (65536+(n - 55296)*1024+(m - 56320))) l3 else .ok (Zhr (Zmp n)) l1
  | none=> .ok (Zhr (Zmp n)) l1
def ZrC:BL->Out BL
  | []=> .err 24 []
  | c::l=>match Zhi c with
    | some m=> .ok [m] l
    | none=>if c=117 then ZEJ l else .err 22 (c::l)
def ZAs (c:Nat):Nat × Nat × Nat :=
  if c<128 then (1,0,0)
  else if 194<=c/\c<=223 then (2,128,191)
  else if c=224 then (3,160,191)
  else if c=237 then (3,128,159)
  else if 225<=c/\c<=239 then (3,128,191)
  else if c=240 then (4,144,191)
  else if 241<=c/\c<=243 then (4,128,191)
  else if c=244 then (4,128,143)
  else (0,0,0)
def ZeO:Nat->Nat->Nat->BL->Out Unit
  | 0,_,_,l=> .ok () l
  | _+1,_,_,[]=> .err 24 []
  | n+1,lo,hi,d::l=>if lo<=d.toNat/\d.toNat<=hi then ZeO n 128 191 l else .err 22 (d::l)
def ZcD:BL->Out Unit
  | []=> .err 24 []
  | c::l=>if (ZAs c.toNat).1=0 then .err 22 (c::l) else ZeO ((ZAs c.toNat).1 - 1) (ZAs c.toNat).2.1 (ZAs c.toNat).2.2 l
def Ziu:Nat->BL->BL->Out BL
  | 0,_,_=> .err 24 []
  | _+1,_,[]=> .err 24 []
  | n+1,out,c::l =>
    if c.toNat<32 then .err 22 (c::l)
    else if c=34 then .ok out l
    else if c=92 then (ZrC l).bind fun o l2=>Ziu n (out++o) l2
    else if c.toNat<128 then Ziu n (out++[c]) l
    else (ZcD (c::l)).bind fun _ l2=>Ziu n (out++upto (c::l) l2) l2
def ZnW (l:BL):Out BL:=Ziu (l.length+1) [] l
def Zji (l:BL):Out BL :=
  match Za3 l with
  | c::l1=>if c=34 then (ZnW l1).bind fun nm l2=>match Za3 l2 with
     | d::l3=>if d=58 then .ok nm l3 else .err 20 (d::l3)
     | []=> .err 24 []
    else .err 20 (c::l1)
  | []=> .err 24 []
def ZcW (pv:BL->Out JV) (ob:Bool) (ns:List BL) (sub:JL) (l:BL):Out (List BL × JL) :=
  if ob then (Zji l).bind fun nm l3=>(pv l3).bind fun v l4=> .ok (ns++[nm],sub.snoc v) (Za3 l4)
  else (pv (Za3 l)).bind fun v l4=> .ok (ns,sub.snoc v) (Za3 l4)
def Zup (ob:Bool):UInt8:=if ob then 125 else 93
def Zhe (c:UInt8):BL->Bool
  | d::_=>d ==c
  | []=>false
def Zgs (pv:BL->Out JV) (ob:Bool):Nat->List BL->JL->BL->Out (List BL × JL)
  | 0,_,_,_=> .err 24 []
  | m+1,ns,sub,l =>
    if Zhe (Zup ob) l then .ok (ns,sub) l.tail
    else if sub.isNil then (ZcW pv ob ns sub l).bind fun p l2=>Zgs pv ob m p.1 p.2 l2
    else if Zhe 44 l then (ZcW pv ob ns sub l.tail).bind fun p l2=>Zgs pv ob m p.1 p.2 l2
    else Za1 20 l
def Zig (op:Bool->BL->Out JV) (l:BL):Out JV :=
  match Za3 l with
  | []=> .err 24 []
  | c::l1 =>
    if c=123 then op true (c::l1)
    else if c=91 then op false (c::l1)
    else if c=34 then (ZnW l1).bind fun t r=> .ok ⟨5,t,[],.nil⟩ r
    else if c=110 then (ZfD [110,117,108,108] (c::l1)).bind fun _ r=> .ok ⟨1,[],[],.nil⟩ r
    else if c=102 then (ZfD [102,97,108,115,101] (c::l1)).bind fun _ r=> .ok ⟨2,[],[],.nil⟩ r
    else if c=116 then (ZfD [116,114,117,101] (c::l1)).bind fun _ r=> .ok ⟨3,[],[],.nil⟩ r
    else if c=45\/ZdP c then (Zm1 (c::l1)).bind fun _ r=> .ok ⟨4,upto (c::l1) r,[],.nil⟩ r
    else .err 20 (c::l1)
def Zra (pv:BL->Out JV) (ob:Bool) (l:BL):Out JV :=
  (Zgs pv ob (l.length+1) [] .nil (Za3 l.tail)).bind fun p r=> .ok ⟨if ob then 7 else 6,[],p.1,p.2⟩ r
def Zbb:Nat->BL->Out JV
  | 0=>Zig fun _ l=>Za1 23 l
  | n+1=>Zig (Zra (Zbb n))
inductive Got where
  | ok (v:JV)
  | err (e:Nat) (at_:Nat)
def Zer (l:BL):Got :=
  if 65536<l.length then .err 5 65536
  else match Zbb 64 l with
    | .err e r=> .err e (l.length - r.length)
    | .ok v r=>match Za3 r with
      | []=> .ok v
      | c::r'=> .err 25 (l.length - (c::r').length)
theorem Zbx {c:UInt8} {l r:BL} (h:r <:+l):r <:+c::l:=h.trans (Aye _ _)
theorem Zpt (l:BL):Za3 l <:+l:=Ayf _
theorem ZiO {l r:BL} (h:Zay l = .ok () r):r <:+l:=by
  rcases l with _ | ⟨c,l⟩
  ·cases h
  ·dsimp only [Zay] at h
   split at h
   ·cases h;exact Zbx (Ayf _)
   ·cases h
theorem Zt0 (l:BL):Zgq l <:+l:=by
  rcases l with _ | ⟨c,l⟩
  ·exact Ayg _
  ·dsimp only [Zgq]
   split
   ·exact Aye _ _
   ·exact Ayg _
theorem ZwB (l:BL):Zn0 l <:+l:=by
  rcases l with _ | ⟨c,l⟩
  ·exact Ayg _
  ·dsimp only [Zn0]
   split
   ·exact Aye _ _
   ·exact Ayg _
theorem ZzJ {l r:BL} (h:ZpU l = .ok () r):r <:+l:=by
  rcases l with _ | ⟨c,l⟩
  ·cases h
  ·dsimp only [ZpU] at h
   split at h
   ·rcases l with _ | ⟨d,l⟩
    ·cases h;exact Aye _ _
    ·dsimp only [ZeE] at h
     split at h
     ·cases h
     ·cases h;exact Aye _ _
   ·exact ZiO h
theorem ZxM {l r:BL} (h:Zkx l = .ok () r):r <:+l:=by
  rcases l with _ | ⟨c,l⟩
  ·cases h;exact Ayg _
  ·dsimp only [Zkx] at h
   split at h
   ·exact Zbx (ZiO h)
   ·cases h;exact Ayg _
theorem ZzZ {l r:BL} (h:ZoD l = .ok () r):r <:+l:=by
  rcases l with _ | ⟨c,l⟩
  ·cases h;exact Ayg _
  ·dsimp only [ZoD] at h
   split at h
   ·exact Zbx ((ZiO h).trans (ZwB _))
   ·cases h;exact Ayg _
theorem Xb {α β:Type} {x:Out α} {f:α->BL->Out β} {b:β} {r:BL} (h:x.bind f = .ok b r):∃ a l,x = .ok a l/\f a l = .ok b r:=by
  cases x with
  | ok a l=>exact ⟨a,l,rfl,h⟩
  | err e l=>cases h
theorem ZzA {l r:BL} (h:Zm1 l = .ok () r):∃ l1 l2,ZpU (Zgq l) = .ok () l1/\Zkx l1 = .ok () l2/\ZoD l2 = .ok () r:=by
  obtain ⟨_,l1,h1,h⟩:=Xb h
  obtain ⟨_,l2,h2,h⟩:=Xb h
  exact ⟨l1,l2,h1,h2,h⟩
theorem Zst {l r:BL} (h:Zm1 l = .ok () r):r <:+l:=by
  obtain ⟨l1,l2,h1,h2,h3⟩:=ZzA h
  exact (ZzZ h3).trans ((ZxM h2).trans ((ZzJ h1).trans (Zt0 l)))
end Go.Js
namespace Go.Proofs.YtpjbjdheeemdiaaGreatDoor
open Go Go.Fw Go.Js
theorem YX {h:Zc} {cells:List Value} {t:TypeId} {K:Nat->Zc->Prop} (hk:∀ h1,h1[h.size]?=some (.cells cells.toArray t (0,0))->Ext h h1->h1.size=h.size+1->K h.size h1):newC h cells t K :=
  ZtT (hk _ Zjc (Ext.push _ _) (by simp))
theorem Zu {b o:Nat} {K:Nat->Nat->Prop} (hk:K b o):Ze (some ⟨b,o,none⟩) K:=⟨b,o,rfl,hk⟩
theorem ZFH {h:Zc} {b:Nat} {x:Obj} (hq:h[b]?=some x):b<h.size:=by
  rcases Aqd b h.size with hl | hl
  ·exact hl
  ·rw [Aqe hl] at hq;cases hq
theorem Zb {h:Zc} {b o:Nat} {l:List Value} {e:TypeId} {f:Nat × Nat} {v:Value} (hb:obj h b=some (.cells l.toArray e f)) (hv:l[o]?=some v):ZbA o (obj h b)=some v:=by rw [hb,Zom];exact hv
theorem rI {h:Zc} {b o:Nat} {k:IntKind} {n:Int} {K:Int->Prop} (hc:ZbA o (obj h b)=some (.int k n)) (hk:K n):ldI h b o k K:=by rw [ZFk hc];exact hk
theorem rS {h:Zc} {b o:Nat} {n:ByteArray} {K:ByteArray->Prop} (hc:ZbA o (obj h b)=some (.string n)) (hk:K n):ldS h b o K:=by rw [ZFh hc];exact hk
theorem rP {h:Zc} {b o:Nat} {n:Option Addr} {K:Option Addr->Prop} (hc:ZbA o (obj h b)=some (.pointer n)) (hk:K n):ldP h b o K:=by rw [ZFi hc];exact hk
theorem rL {h:Zc} {b o:Nat} {s:Sl} {K:Sl->Prop} (hc:ZbA o (obj h b)=some (slV s)) (hk:K s):ldL h b o K:=by cases s;exact (ZFj hc).mpr hk
theorem Zjw {h:Zc} {b o:Nat} {v:Value} {K:Zc->Prop} {l:List Value} {e:TypeId} (hb:obj h b=some (.cells l.toArray e (0,0))) (ho:o<l.length) (hv:Yc v=true)
    (hk:∀ h',obj h' b=some (.cells (l.set o v).toArray e (0,0))->Upd (· = b) h h'->sz h'=sz h->K h'):st h b o v K:=by
  refine ⟨⟨l[o],by rw [Zj5 hb];simp [ho]⟩,?_,hv,?_⟩
  ·unfold Zc.froz;rw [show h[b]?=obj h b from rfl,hb];simp
  ·refine hk _ ?_ (Upd.put h b o v) ZkG
   have:=ZpG (v:=v) (o:=o) hb
   rw [show obj (h.put b o v) b=(h.put b o v)[b]? from rfl,this]
   simp
structure Zjt (s:ByteArray) (n:Nat) (l:BL):Prop where
  drop:s.data.toList.drop n=l
  len:n+l.length=s.size
theorem Zjt.head {s:ByteArray} {n:Nat} {c:UInt8} {l:BL} (h:Zjt s n (c::l)):s[n]?=some c:=by
  have h1:s.data.toList[n]?=some c:=by
    have:=congrArg (fun x=>x[0]?) h.drop
    simp only [Aqg] at this
    simpa using this
  have hn:n<s.size:=by have:=h.len;simp at this;omega
  rw [Axr] at h1
  rw [getElem?_pos s n hn]
  rw [getElem?_pos s.data n hn] at h1
  exact h1
theorem Zjt.tail {s:ByteArray} {n:Nat} {c:UInt8} {l:BL} (h:Zjt s n (c::l)):Zjt s (n+1) l:=by
  refine ⟨?_,by have:=h.len;simp at this;omega⟩
  rw [show s.data.toList.drop (n+1)=(s.data.toList.drop n).drop 1 by rw [Axp],h.drop]
  rfl
theorem Zjt.dropK {s:ByteArray} {n:Nat} {l:BL} (h:Zjt s n l) {k:Nat} (hk:k<=l.length):Zjt s (n+k) (l.drop k):=by
  refine ⟨?_,by have:=h.len;simp;omega⟩
  rw [<- h.drop,Axp]
theorem Zjt.start (s:ByteArray):Zjt s 0 s.data.toList:=⟨rfl,by simp⟩
theorem Zjt.extract {s:ByteArray} {n m:Nat} {l r:BL} (h:Zjt s n l) (h':Zjt s m r) (hnm:n<=m):s.extract n m=Zk (upto l r):=by
  have e:m - n=l.length - r.length:=by have:=h.len;have:=h'.len;omega
  have hm:m<=s.size:=by have:=h'.len;omega
  unfold upto
  rw [<- e,<- h.drop]
  have:(s.extract n m).data.toList=(s.data.toList.drop n).take (m - n):=by
    simp [ByteArray.data_extract]
  rcases hx:s.extract n m with ⟨⟨x⟩⟩
  rw [hx] at this
  simp only at this
  rw [this]
def Rd (h:Zc) (R:Nat) (s:ByteArray) (l:BL):Prop:=s.size<=65536/\∃ n:Nat,obj h R=some (.cells [.string s,.int .i64 n].toArray 163 (0,0))/\Zjt s n l
abbrev At (R:Nat):Option Addr:=some ⟨R,0,none⟩
def ZfH (e:Nat) (n:Nat):Value:= .iface 160 (.agg #[.int .i64 e,.int .i64 n])
theorem Rd.congr {h h':Zc} {R:Nat} {s:ByteArray} {l:BL} (hr:Rd h R s l) (e:obj h' R=obj h R):Rd h' R s l:=by
  obtain ⟨a,n,b,c⟩:=hr
  exact ⟨a,n,e.trans b,c⟩
theorem Rd.lt {h:Zc} {R:Nat} {s:ByteArray} {l:BL} (hr:Rd h R s l):R<sz h:=by
  obtain ⟨_,n,b,_⟩:=hr
  exact ZaJ b
theorem Rd.upd {S:Nat->Prop} {h h':Zc} {R:Nat} {s:ByteArray} {l:BL} (hr:Rd h R s l) (u:Upd S h h') (hs:¬ S R):Rd h' R s l:=hr.congr (Zo u hr.lt hs)
theorem Rd.ext {h h':Zc} {R:Nat} {s:ByteArray} {l:BL} (hr:Rd h R s l) (u:Ext h h'):Rd h' R s l:=hr.congr (Zq u hr.lt)
theorem Rd.len {h:Zc} {R:Nat} {s:ByteArray} {l:BL} (hr:Rd h R s l):l.length<=s.size/\s.size<=65536:=by
  obtain ⟨a,n,b,c⟩:=hr
  have:=c.len
  omega
theorem Zic {h:Zc} {R:Nat} {s:ByteArray} {l:BL} (hr:Rd h R s l) {K:Int->Prop} (hk:∀ n:Nat,Zjt s n l->K n):Ze (At R) fun b o=>ldI h b (o+1) .i64 K:=by
  obtain ⟨_,n,hb,hn⟩:=hr
  exact Zu (rI (Zb hb rfl) (hk n hn))
theorem Zsj {h:Zc} {R:Nat} {s:ByteArray} {l:BL} (hr:Rd h R s l) {K:ByteArray->Prop} (hk:K s):Ze (At R) fun b o=>ldS h b o K:=by
  obtain ⟨_,n,hb,hn⟩:=hr
  exact Zu (rS (Zb hb rfl) hk)
theorem Zsk {h:Zc} {R:Nat} {s:ByteArray} {l l':BL} (hr:Rd h R s l) {m:Int} {n:Nat} (hm:m=n) (hn:Zjt s n l') {K:HP} (hk:∀ h',Rd h' R s l'->Upd (· = R) h h'->sz h'=sz h->K h'):Ze (At R) fun b o=>st h b (o+1) (.int .i64 m) K:=by
  obtain ⟨hs,n0,hb,hn0⟩:=hr
  refine Zu (Zjw hb (by simp) ZfT fun h' c u z=>hk h' ⟨hs,n,?_,hn⟩ u z)
  rw [c,hm];rfl
theorem Zdq {h:Zc} {R:Nat} {s:ByteArray} {c:UInt8} {l:BL} (hr:Rd h R s (c::l)) {K:HP} (hk:∀ h',Rd h' R s l->Upd (· = R) h h'->sz h'=sz h->K h') :
    Ze (At R) fun b o=>ldI h b (o+1) .i64 fun t=>Ze (At R) fun b o=>st h b (o+1) (.int .i64 (IntKind.wrap .i64 (t+1))) K:=by
  refine Zic hr fun n hn=>?_
  have:=hn.len
  have:=hr.len
  refine Zsk hr (n:=n+1) ?_ hn.tail hk
  rw [Yt (by omega) (by omega)];rfl
theorem ZCR {h:Zc} {R:Nat} {s:ByteArray} {l:BL} (hr:Rd h R s l) {k:Int} {m:Nat} (hk:k=m) (hm:m<=l.length) {K:HP} (hK:∀ h',Rd h' R s (l.drop m)->Upd (· = R) h h'->sz h'=sz h->K h') :
    Ze (At R) fun b o=>ldI h b (o+1) .i64 fun t=>Ze (At R) fun b o=>st h b (o+1) (.int .i64 (IntKind.wrap .i64 (t+k))) K:=by
  refine Zic hr fun n hn=>?_
  have:=hn.len
  have:=hr.len
  refine Zsk hr (n:=n+m) ?_ (hn.dropK hm) hK
  rw [Yt (by omega) (by omega),hk];rfl
theorem Zq4 {h:Zc} {R:Nat} {s:ByteArray} {l:BL} (hr:Rd h R s l) {A B:Prop} (ha:l≠[]->A) (hb:l=[]->B) :
    Ze (At R) fun b o=>ldI h b (o+1) .i64 fun t=>Ze (At R) fun b o=>ldS h b o fun t5=>Zz (decide (t<(t5.size:Int))) A B:=by
  refine Zic hr fun n hn=>Zsj hr (Zt (fun e=>ha ?_) fun e=>hb ?_)
  ·have:=hn.len
   intro e;subst e;simp at this;omega
  ·have:=hn.len
   exact Aqr (by omega)
theorem Zoc {h:Zc} {R:Nat} {s:ByteArray} {l:BL} (hr:Rd h R s l) {A B:Prop} (ha:l=[]->A) (hb:l≠[]->B) :
    Ze (At R) fun b o=>ldI h b (o+1) .i64 fun t=>Ze (At R) fun b o=>ldS h b o fun t5=>Zz (decide (t>=(t5.size:Int))) A B:=by
  refine Zic hr fun n hn=>Zsj hr (Zt (fun e=>ha ?_) fun e=>hb ?_)
  ·have:=hn.len
   exact Aqr (by omega)
  ·have:=hn.len
   intro e;subst e;simp at this;omega
def ZbX:BL->Int
  | c::_=>c.toNat
  | []=>0
theorem Zaa {h:Zc} {R:Nat} {s:ByteArray} {l:BL} (hr:Rd h R s l) {K:Int->HP} (hk:K (ZbX l) h):Zx (At R) K h:=by
  unfold Zx ZdX
  refine Za (Zq4 hr (fun hne=>?_) fun he=>Za ?_)
  ·obtain ⟨c,l',rfl⟩:=Ayh hne
   refine Zsj hr (Zic hr fun n hn=>⟨c,by omega,by rw [Aqu];exact hn.head,Za hk⟩)
  ·subst he;exact hk
theorem ZFd {h:Zc} {R:Nat} {s:ByteArray} {l:BL} (hr:Rd h R s l) {K:Int × Unit->Prop} (hk:K (ZbX l,())):ZtL (ρ:=Int × Unit) (fun K h=>Zx (At R) (fun q h=>K (q,()) h) h) h K :=
  ⟨(ZbX l,()),Zaa hr ⟨rfl,rfl⟩,hk⟩
def OnE {α:Type} (h:Zc) (R:Nat) (s:ByteArray) (S:Nat->Prop) (res:Out α) (P:Value->HP):Prop:=∀ e r h',res = .err e r->Upd S h h'->P (ZfH e (s.size - r.length)) h'
def left (h:Zc) (R:Nat):Nat:=match obj h R with
  | some (.cells c _ _)=>(match c.toList with
    | [.string s,.int _ n]=>s.size - n.toNat
    | _=>0)
  | _=>0
theorem Rd.left {h:Zc} {R:Nat} {s:ByteArray} {l:BL} (hr:Rd h R s l):left h R=l.length:=by
  obtain ⟨_,n,b,g⟩:=hr
  unfold Go.Proofs.YtpjbjdheeemdiaaGreatDoor.left
  rw [b]
  have:=g.len
  simp
  omega
theorem ZxS {α:Type} {h:Zc} {R:Nat} {s:ByteArray} {l:BL} (hr:Rd h R s l) {e:Nat} {n:Int} (hn:n=((s.size - l.length:Nat):Int)) {K:HP} {P:Value->HP} (hp:∀ e' r,(Za1 e l:Out α) = .err e' r->r=l->P (ZfH e' (s.size - r.length)) h):Zp (At R) (e:Int) n K P h:=by
  unfold Zp Za0
  have hl:=hr.len
  refine Zsj hr (Zt (fun hd=>?_) fun hd=>?_)
  ·have:l=[]:=by
     refine Aqr ?_
     omega
   subst this
   have:=hp 24 [] rfl rfl
   exact Zsj hr this
  ·have hne:l≠[]:=by intro e;subst e;simp at hn;omega
   obtain ⟨c,l',rfl⟩:=Ayh hne
   have:=hp e (c::l') rfl rfl
   subst hn
   exact this
theorem ZbK {α:Type} {h:Zc} {R:Nat} {s:ByteArray} {l:BL} (hr:Rd h R s l) {e:Nat} {K:HP} {P:Value->HP} {e0:Int} (he:e0=e) (hp:∀ e' r,(Za1 e l:Out α) = .err e' r->r=l->P (ZfH e' (s.size - r.length)) h) :
    Ze (At R) fun b o=>ldI h b (o+1) .i64 fun t=>Zp (At R) e0 t K P h:=by
  subst he
  refine Zic hr fun n hn=>ZxS (α:=α) hr ?_ hp
  have:=hn.len
  congr 1;omega
theorem Zrr {s:ByteArray} {c:Int} {K:Int->HP} {h:Zc} (hk:K (Lib.indexByte s.data.toList c.toNat.toUInt8) h):X0 s c K h:=hk
theorem ZMd {p:UInt8->Prop} (h:∀ f:Fin 256,p ⟨⟨f⟩⟩):∀ c,p c:=fun ⟨⟨f⟩⟩=>h f
theorem Zs8 (c:UInt8):(Lib.indexByte [32,9,10,13] c>=0)↔XJ c=true:=by
  revert c
  exact ZMd (by decide +kernel)
theorem Zee {h:Zc} {R:Nat} {s:ByteArray} {l:BL} (hr:Rd h R s l) {K:HP} (hk:∀ h',Rd h' R s (Za3 l)->Upd (· = R) h h'->sz h'=sz h->K h'):Z5 (At R) K h:=by
  unfold Z5 ZcT
  refine Zv (fun _ h'=>∃ l',Rd h' R s l'/\Za3 l'=Za3 l/\Upd (· = R) h h'/\sz h'=sz h) (fun _ h'=>left h' R) ⟨l,hr,rfl,Upd.refl _ _,rfl⟩ ?_
  rintro ⟨⟩ h1 ⟨l1,r1,e1,u1,z1⟩
  dsimp only
  refine Zq4 r1 (fun hne=>?_) fun he=>?_
  ·obtain ⟨c,l',rfl⟩:=Ayh hne
   refine Zsj r1 (Zic r1 fun n hn=>⟨c,by omega,by rw [Aqu];exact hn.head,?_⟩)
   refine ⟨(Lib.indexByte [32,9,10,13] c,()),⟨by simp,rfl⟩,Zt (fun hb=>?_) fun hb=>?_⟩
   ·refine Zdq r1 fun h2 r2 u2 z2=>⟨⟨l',r2,?_,u1.trans u2,z2.trans z1⟩,?_⟩
    ·rw [<- e1]
     unfold Za3
     rw [Ayi ((Zs8 c).1 hb)]
    ·rw [r1.left,r2.left];simp
   ·refine hk h1 ?_ u1 z1
    have:XJ c=false:=by
      cases hc:XJ c
      ·rfl
      ·exact absurd ((Zs8 c).2 hc) hb
    rw [<- e1]
    unfold Za3
    rw [Ayj (by simp [this])]
    exact r1
  ·subst he
   refine hk h1 ?_ u1 z1
   rw [<- e1]
   exact r1
theorem Zbc {h:Zc} {b:Nat} {l:List Value} (hb:obj h b=some (.cells l.toArray 33 (0,0))) (hl:l.length=4) {k:Int} {t:ByteArray} {x y:Sl} {K:(Int × ByteArray × Sl × Sl × Unit)->HP}
    (hk:∀ h',Upd (· = b) h h'->sz h'=sz h->K (k,t,x,y,()) h') :
    sts h b 0 [.int .u8 k,.string t,.slice x.ptr x.len x.cap,.slice y.ptr y.len y.cap] fun h83 =>
      ldI h83 b 0 .u8 fun t84=>ldS h83 b (0+1) fun t85=>ldL h83 b (0+2) fun t86=>ldL h83 b (0+3) fun t87=>K (t84,t85,t86,t87,()) h83:=by
  obtain ⟨a0,a1,a2,a3,rfl⟩:∃ a0 a1 a2 a3,l=[a0,a1,a2,a3]:=by
    rcases l with _ | ⟨a0,_ | ⟨a1,_ | ⟨a2,_ | ⟨a3,_ | ⟨a4,l⟩⟩⟩⟩⟩<;>simp at hl
    exact ⟨a0,a1,a2,a3,rfl⟩
  rw [Zpq (by rw [hb,Zfz];rfl) (by rfl)]
  have hc:obj (h.puts b 0 [.int .u8 k,.string t,.slice x.ptr x.len x.cap,.slice y.ptr y.len y.cap]) b=some (.cells [.int .u8 k,.string t,.slice x.ptr x.len x.cap,.slice y.ptr y.len y.cap].toArray 33 (0,0)):=by
    rw [ZdE,if_pos rfl,hb,Zbz];rfl
  refine rI (Zb hc rfl) (rS (Zb hc rfl) (rL (s:=x) (Zb hc rfl) (rL (s:=y) (Zb hc rfl) (hk _ ?_ Ziv))))
  exact Zy2 (Upd.refl _ _) (.inr rfl)
theorem UT {S T:Nat->Prop} {h0 h h':Zc} (u0:Upd S h0 h) (u:Upd T h h') (hT:∀ k,T k->S k\/sz h0<=k):Upd S h0 h' :=
  ⟨Aqp u0.size u.size,fun k hk hs=>(u.old k (Aqq hk u0.size) fun t=>(hT k t).elim hs fun h9=>by have:sz h0=h0.size:=rfl;omega).trans (u0.old k hk hs)⟩
theorem UN {T:Nat->Prop} {h h1 h':Zc} (e:Ext h h1) (u:Upd T h1 h'):Upd T h h':=UT (e.upd T) u fun _ t=> .inl t
theorem Zkn {c d:UInt8} (h:(c.toNat:Int)≠(d.toNat:Int)):c≠d:=fun e=>h (by rw [e])
theorem Zko {c d:UInt8} (h:(c.toNat:Int)=(d.toNat:Int)):c=d:=UInt8.toNat_inj.1 (by omega)
theorem Zax {a b:Int} {A B:Prop} (h1:a≠b->A) (h2:a=b->B):Zz (a !=b) A B:=⟨fun e=>h1 (by simpa using e),fun e=>h2 (by simpa using e)⟩
theorem ZaX {a b:Int} {A B:Prop} (h1:a=b->A) (h2:a≠b->B):Zz (a ==b) A B:=⟨fun e=>h1 (by simpa using e),fun e=>h2 (by simpa using e)⟩
theorem ZkQ {h:Zc} {R:Nat} {s:ByteArray} {l:BL} (hr:Rd h R s l) {w:ByteArray} {wl:BL} (hw:w.data.toList=wl) (hs:w.size<=10) {k:Int} {K:(Int × ByteArray × Sl × Sl × Unit)->HP} {P:Value->HP}
    (hok:∀ r h',ZfD wl l = .ok () r->Rd h' R s r->Upd (· = R) h h'->K (k,ByteArray.mk #[],⟨none,0,0⟩,⟨none,0,0⟩,()) h') (herr:OnE h R s (· = R) (ZfD wl l) P):ZaV (At R) w k K P h:=by
  unfold ZaV ZdU
  have hR:=hr.lt
  have hwl:wl.length=w.size:=by rw [<- hw];simp
  refine YX fun h1 c1 e1 z1=>?_
  have r1:=hr.ext e1
  refine Zv (fun p h'=>∃ (n:Nat) (l':BL),p.1=n/\n<=w.size/\Rd h' R s l'/\ZfD (wl.drop n) l'=ZfD wl l/\Upd (· = R) h1 h') (fun p _=>w.size - p.1.toNat) ⟨0,l,rfl,Ayk _,r1,rfl,Upd.refl _ _⟩ ?_
  rintro ⟨i,u⟩ h2 ⟨n,l2,hi,hn,r2,q2,u2⟩
  dsimp only at hi
  subst hi
  dsimp only
  refine Zt (fun hlt=>Za (Zqi ?_)) fun hge=>?_
  ·have hn':n<wl.length:=by omega
   have hd:wl.drop n=wl[n]::wl.drop (n+1):=Ayl hn'
   have hx:w[n]?=some wl[n]:=by
     subst hw
     rw [getElem?_pos w n (by omega)]
     simp
     rfl
   refine ZFd r2 ⟨wl[n],by omega,by rw [Aqu];exact hx,?_⟩
   dsimp only
   rw [hd] at q2
   rcases l2 with _ | ⟨c,l2⟩
   ·have hfail:∀ e' r,(Za1 20 ([]:BL):Out Unit) = .err e' r->r=[]->P (ZfH e' (s.size - r.length)) h2:=fun e' r he hr'=>herr e' r h2 (by rw [<- q2,<- he];rfl) (UN e1 u2)
    refine Zax (fun _=>ZbK r2 rfl hfail) fun _=>Zoc r2 (fun _=>ZbK r2 rfl hfail) fun hne=>absurd rfl hne
   ·refine Zax (fun hne=>ZbK (α:=Unit) r2 rfl fun e' r he hr'=>?_) fun heq=>Zoc r2 (fun hl=>by cases hl) fun _=>Zdq r2 fun h3 r3 u3 z3=>?_
    ·refine herr e' r h2 ?_ (UN e1 u2)
     rw [<- q2,<- he]
     unfold ZfD
     rw [if_neg (Zkn hne)]
     rfl
    ·rw [Yt (by omega) (by omega)]
     refine ⟨⟨n+1,l2,rfl,by omega,r3,?_,u2.trans u3⟩,by omega⟩
     rw [<- q2]
     conv=>rhs;unfold ZfD
     rw [if_pos (Zko heq)]
  ·have hn':n=wl.length:=by omega
   subst hn'
   rw [Aym] at q2
   have hb:obj h2 h.size=some (.cells zV.toArray 33 (0,0)):=ZB c1 u2 (show ¬ h.size=R from by have:sz h=h.size:=rfl;omega)
   refine Zbc (x:=⟨none,0,0⟩) (y:=⟨none,0,0⟩) hb rfl fun h3 u3 z3=>hok l2 h3 (by rw [<- q2];rfl) (r2.upd u3 (show ¬ R=h.size from by have:sz h=h.size:=rfl;omega)) ?_
   exact UT (UN e1 u2) u3 fun k hk=> .inr (by subst hk;exact Aqo _)
theorem ZeN {c:UInt8}:ZdP c=true↔48<=c.toNat/\c.toNat<=57:=by unfold ZdP;simp
theorem ZiN {h:Zc} {R:Nat} {s:ByteArray} {l:BL} (hr:Rd h R s l) {K:HP} {P:Value->HP}
    (hok:∀ r h',Zay l = .ok () r->Rd h' R s r->Upd (· = R) h h'->K h') (herr:OnE h R s (· = R) (Zay l) P):YQ (At R) K P h:=by
  unfold YQ ZcS
  refine Zqi (Zaa hr (Za ?_))
  have hfail:(∀ c l',l=c::l'->¬ ZdP c=true)->∀ e' r,(Za1 21 l:Out Unit) = .err e' r->r=l->P (ZfH e' (s.size - r.length)) h:=fun hc e' r he hr'=>herr e' r h (by
    rw [<- he]
    rcases l with _ | ⟨c,l⟩
    ·rfl
    ·dsimp only [Zay]
     rw [if_neg (hc c l rfl)];rfl) (Upd.refl _ _)
  refine Zt (fun hlo=>ZbK hr rfl (hfail ?_)) fun hlo=>Zt (fun hhi=>ZbK hr rfl (hfail ?_)) fun hhi=>?_
  ·rintro c l' rfl hd
   have:=ZeN.1 hd
   simp only [ZbX] at hlo
   omega
  ·rintro c l' rfl hd
   have:=ZeN.1 hd
   simp only [ZbX] at hhi
   omega
  ·rcases l with _ | ⟨c,l⟩
   ·simp [ZbX] at hlo
   ·simp only [ZbX] at hlo hhi
    have hd:ZdP c=true:=ZeN.2 (by omega)
    have hq:Zay (c::l) = .ok () (l.dropWhile ZdP):=by dsimp only [Zay];rw [if_pos hd]
    refine Zaa hr (Za ?_)
    refine Zv (fun p h'=>∃ l',p.1=ZbX l'/\Rd h' R s l'/\l'.dropWhile ZdP=l.dropWhile ZdP/\Upd (· = R) h h') (fun _ h'=>left h' R) ⟨c::l,rfl,hr,by rw [Ayi hd],Upd.refl _ _⟩ ?_
    rintro ⟨i,u⟩ h1 ⟨l1,hi,r1,q1,u1⟩
    dsimp only at hi ⊢
    subst hi
    have fin:(∀ c l',l1=c::l'->¬ ZdP c=true)->K h1:=fun hc=>hok _ h1 hq (by
      rw [<- q1]
      rcases l1 with _ | ⟨d,l1⟩
      ·exact r1
      ·rw [Ayj (by simpa using hc d l1 rfl)];exact r1) u1
    refine Zt (fun h48=>Zt (fun h57=>?_) fun h57=>fin ?_) fun h48=>fin ?_
    ·rcases l1 with _ | ⟨d,l1⟩
     ·simp [ZbX] at h48
     ·simp only [ZbX] at h48 h57
      have hd1:ZdP d=true:=ZeN.2 (by omega)
      refine Zdq r1 fun h2 r2 u2 z2=>Zaa r2 (Za ⟨⟨l1,rfl,r2,?_,u1.trans u2⟩,by rw [r1.left,r2.left];simp⟩)
      rw [<- q1,Ayi hd1]
    ·rintro d l' rfl hd
     have:=ZeN.1 hd
     simp only [ZbX] at h57
     omega
    ·rintro d l' rfl hd
     have:=ZeN.1 hd
     simp only [ZbX] at h48
     omega
theorem ZgN {l:BL} (c:UInt8) {n:Int} {A B:Prop} (h1:∀ l',l=c::l'->A) (h2:(∀ d l',l=d::l'->d≠c)->B) (hc:n=(c.toNat:Int):=by rfl) (h0:0<c.toNat:=by decide):Zz (ZbX l ==n) A B:=by
  subst hc
  rcases l with _ | ⟨d,l⟩
  ·refine Zm ?_ (h2 fun d l' e=>by cases e)
   simp only [ZbX,beq_eq_false_iff_ne,ne_eq]
   omega
  ·refine ZaX (fun e=>h1 l ?_) fun e=>h2 ?_
   ·simp only [ZbX] at e
    rw [Zko e]
   ·rintro d' l' e'
    cases e'
    exact Zkn e
theorem Zjk {l:BL} (c:UInt8) {n:Int} {A B:Prop} (h1:(∀ d l',l=d::l'->d≠c)->A) (h2:∀ l',l=c::l'->B) (hc:n=(c.toNat:Int):=by rfl) (h0:0<c.toNat:=by decide):Zz (ZbX l !=n) A B:=by
  subst hc
  rcases l with _ | ⟨d,l⟩
  ·refine Zn ?_ (h1 fun d l' e=>by cases e)
   simp only [ZbX,bne_iff_ne,ne_eq]
   omega
  ·refine Zax (fun e=>h1 ?_) fun e=>h2 l ?_
   ·rintro d' l' e'
    cases e'
    exact Zkn e
   ·simp only [ZbX] at e
    rw [Zko e]
theorem Zrd {h:Zc} {R:Nat} {s:ByteArray} {l:BL} (hr:Rd h R s l) {K:(Int × ByteArray × Sl × Sl × Unit)->HP} {P:Value->HP}
    (hok:∀ r h',Zm1 l = .ok () r->Rd h' R s r->Upd (· = R) h h'->K (4,Zk (upto l r),⟨none,0,0⟩,⟨none,0,0⟩,()) h') (herr:OnE h R s (· = R) (Zm1 l) P):XN (At R) K P h:=by
  unfold XN ZcQ
  have hR:=hr.lt
  refine YX fun h1 c1 e1 z1=>?_
  have r1:=hr.ext e1
  refine Zic r1 fun n0 g0=>Za ?_
  refine Z0 (fun _ h'=>Rd h' R s (Zgq l)/\Upd (· = R) h1 h') ?_ ?_
  ·rintro ⟨⟩ h2 ⟨r2,u2⟩
   refine Z0 (fun _ h'=>∃ l1,ZpU (Zgq l) = .ok () l1/\Rd h' R s l1/\Upd (· = R) h1 h') ?_ ?_
   ·rintro ⟨⟩ h3 ⟨l1,q1,r3,u3⟩
    refine Z0 (fun _ h'=>∃ l2,Zkx l1 = .ok () l2/\Rd h' R s l2/\Upd (· = R) h1 h') ?_ ?_
    ·rintro ⟨⟩ h4 ⟨l2,q2,r4,u4⟩
     refine Z0 (fun _ h'=>∃ l3,ZoD l2 = .ok () l3/\Rd h' R s l3/\Upd (· = R) h1 h') ?_ ?_
     ·rintro ⟨⟩ h5 ⟨l3,q3,r5,u5⟩
      have hq:Zm1 l = .ok () l3:=by unfold Zm1;rw [q1];dsimp only [Out.bind_ok];rw [q2];exact q3
      have hsuf:=Zst hq
      obtain ⟨_,n5,b5,g5⟩:=id r5
      refine Zu (Zu (rS (Zb b5 rfl) (rI (Zb b5 rfl) ?_)))
      have hle:n0<=n5:=by have:=g0.len;have:=g5.len;have:=hsuf.length_le;omega
      refine ⟨by omega,by omega,by have:=g5.len;omega,?_⟩
      rw [Aqu,Aqu,g0.extract g5 hle]
      have hb:obj h5 h.size=some (.cells zV.toArray 33 (0,0)):=ZB c1 u5 (show ¬ h.size=R from by have:sz h=h.size:=rfl;omega)
      refine Zbc (x:=⟨none,0,0⟩) (y:=⟨none,0,0⟩) hb rfl fun h6 u6 z6=>hok l3 h6 hq (r5.upd u6 (show ¬ R=h.size from by have:sz h=h.size:=rfl;omega)) ?_
      exact UT (UN e1 u5) u6 fun k hk=> .inr (by subst hk;exact Aqo _)
     ·have er:∀ {l'},ZoD l2=Zay l'->∀ {h5:Zc},Upd (· = R) h1 h5->OnE h5 R s (· = R) (Zay l') P:=fun hq h5 u5 e r h6 he u6=>herr e r h6 (by unfold Zm1;rw [q1];dsimp only [Out.bind_ok];rw [q2];dsimp only [Out.bind_ok];rw [hq];exact he) (UN e1 (u5.trans u6))
      have dg:∀ {l':BL} {h5:Zc},Rd h5 R s l'->ZoD l2=Zay l'->Upd (· = R) h1 h5->YQ (At R) (fun h'=>∃ l3,ZoD l2 = .ok () l3/\Rd h' R s l3/\Upd (· = R) h1 h') P h5:=fun r5 hq u5=>ZiN r5 (fun r h6 hd r6 u6=>⟨r,hq.trans hd,r6,u5.trans u6⟩) (er hq u5)
      have sg:∀ {l':BL} {h5:Zc} {A B C:Prop},Rd h5 R s l'->(∀ l'',l'=43::l''->A)->(∀ l'',l'=45::l''->B)->((∀ d l'',l'=d::l''->d≠43/\d≠45)->C)->Zz (ZbX l' ==43) A (Zz (ZbX l' ==45) B C):=fun {l' h5 A B C} r5 a b c =>
        ZgN 43 (fun l'' e=>a l'' e) fun n43=>ZgN 45 (fun l'' e=>b l'' e) fun n45=>c fun d l'' e=>⟨n43 d l'' e,n45 d l'' e⟩
      have go:∀ {c:UInt8} {l':BL},l2=c::l'->(c=101\/c=69)->∀ {l'':BL},Zn0 l'=l''->ZoD l2=Zay l'':=fun {c l'} e he {l''} hs=>by
        subst e
        dsimp only [ZoD]
        rw [if_pos he,hs]
      have both:∀ {c:UInt8} {l':BL},l2=c::l'->(c=101\/c=69)->Ze (At R) fun b47 o48=>ldI h4 b47 (o48+1) .i64 fun t49=>Ze (At R) fun b50 o51=>st h4 b50 (o51+1) (.int .i64 (IntKind.wrap .i64 (t49+1))) fun h52 =>
          Zx (At R) (fun t53 h54=>Zi t53 fun c55=>Zz (c55 ==43) (Ze (At R) fun b56 o57=>ldI h54 b56 (o57+1) .i64 fun t58=>Ze (At R) fun b59 o60=>st h54 b59 (o60+1) (.int .i64 (IntKind.wrap .i64 (t58+1))) fun h61 =>
           YQ (At R) (fun h62=>∃ l3,ZoD l2 = .ok () l3/\Rd h62 R s l3/\Upd (· = R) h1 h62) P h61) (Zz (c55 ==45) (Ze (At R) fun b63 o64=>ldI h54 b63 (o64+1) .i64 fun t65=>Ze (At R) fun b66 o67=>st h54 b66 (o67+1) (.int .i64 (IntKind.wrap .i64 (t65+1))) fun h68 =>
           YQ (At R) (fun h69=>∃ l3,ZoD l2 = .ok () l3/\Rd h69 R s l3/\Upd (· = R) h1 h69) P h68) (YQ (At R) (fun h70=>∃ l3,ZoD l2 = .ok () l3/\Rd h70 R s l3/\Upd (· = R) h1 h70) P h54))) h52:=fun {c l'} e he=>by
        subst e
        refine Zdq r4 fun h5 r5 u5 z5=>Zaa r5 (Za (sg r5 (fun l'' e'=>?_) (fun l'' e'=>?_) fun hn=>?_))
        ·subst e'
         exact Zdq r5 fun h6 r6 u6 z6=>dg r6 (go rfl he (by dsimp only [Zn0];rw [if_pos (.inl rfl)])) ((u4.trans u5).trans u6)
        ·subst e'
         exact Zdq r5 fun h6 r6 u6 z6=>dg r6 (go rfl he (by dsimp only [Zn0];rw [if_pos (.inr rfl)])) ((u4.trans u5).trans u6)
        ·refine dg r5 (go rfl he ?_) (u4.trans u5)
         rcases l' with _ | ⟨d,l'⟩
         ·rfl
         ·dsimp only [Zn0]
          rw [if_neg (by have:=hn d l' rfl;simp [this.1,this.2])]
      refine Zaa r4 (Za (ZgN 101 (fun l' e=>both e (.inl rfl)) fun n101=>ZgN 69 (fun l' e=>both e (.inr rfl)) fun n69=>⟨l2,?_,r4,u4⟩))
      rcases l2 with _ | ⟨d,l2⟩
      ·rfl
      ·dsimp only [ZoD]
       rw [if_neg (by have:=n101 d l2 rfl;have:=n69 d l2 rfl;intro hh;rcases hh with hh | hh<;>contradiction)]
    ·refine Zaa r3 (ZgN 46 (fun l' e=>?_) fun hn=>⟨l1,?_,r3,u3⟩)
     ·subst e
      refine Zdq r3 fun h4 r4 u4 z4=>ZiN r4 (fun r h5 hd r5 u5=>⟨r,hd,r5,(u3.trans u4).trans u5⟩) fun e r h5 he u5=>herr e r h5 (by unfold Zm1;rw [q1];dsimp only [Out.bind_ok];rw [show Zkx (46::l')=Zay l' from rfl,he];rfl) (UN e1 ((u3.trans u4).trans u5))
     ·rcases l1 with _ | ⟨d,l1⟩
      ·rfl
      ·dsimp only [Zkx]
       rw [if_neg (hn d l1 rfl)]
   ·refine Zaa r2 (ZgN 48 (fun l' e=>?_) fun hn=>?_)
    ·have hq:∀ {e r},ZeE l' = .err e r->Zm1 l = .err e r:=fun {e' r} hh=>by
       unfold Zm1
       rw [e,show ZpU (48::l')=ZeE l' from rfl,hh];rfl
     rw [e] at r2 ⊢
     refine Zdq r2 fun h3 r3 u3 z3=>Zaa r3 (Za ?_)
     have fin:(∀ c l'',l'=c::l''->¬ ZdP c=true)->∃ l1,ZpU (48::l') = .ok () l1/\Rd h3 R s l1/\Upd (· = R) h1 h3:=fun hc=>⟨l',by
       rw [show ZpU (48::l')=ZeE l' from rfl]
       rcases l' with _ | ⟨d,l'⟩
       ·rfl
       ·dsimp only [ZeE]
        rw [if_neg (hc d l' rfl)],r3,u2.trans u3⟩
     refine Zt (fun h48=>Zt (fun h57=>ZbK (α:=Unit) r3 rfl fun e' r he hr'=>?_) fun h57=>fin ?_) fun h48=>fin ?_
     ·rcases l' with _ | ⟨d,l'⟩
      ·simp [ZbX] at h48
      ·simp only [ZbX] at h48 h57
       refine herr e' r h3 (hq ?_) (UN e1 (u2.trans u3))
       dsimp only [ZeE]
       rw [if_pos (ZeN.2 (by omega)),<- he];rfl
     ·rintro d l'' rfl hd
      have:=ZeN.1 hd
      simp only [ZbX] at h57
      omega
     ·rintro d l'' rfl hd
      have:=ZeN.1 hd
      simp only [ZbX] at h48
      omega
    ·have hq:ZpU (Zgq l)=Zay (Zgq l):=by
       generalize Zgq l=lm at hn
       rcases lm with _ | ⟨d,lm⟩
       ·rfl
       ·dsimp only [ZpU]
        rw [if_neg (hn d lm rfl)]
     exact ZiN r2 (fun r h3 hd r3 u3=>⟨r,hq.trans hd,r3,u2.trans u3⟩) fun e r h3 he u3=>herr e r h3 (by unfold Zm1;rw [hq,he];rfl) (UN e1 (u2.trans u3))
  ·refine Zaa r1 (ZgN 45 (fun l' e=>?_) fun hn=>?_)
   ·subst e
    exact Zdq r1 fun h2 r2 u2 z2=>⟨r2,u2⟩
   ·have hm:Zgq l=l:=by
      rcases l with _ | ⟨d,l⟩
      ·rfl
      ·dsimp only [Zgq]
       rw [if_neg (hn d l rfl)]
    exact ⟨by rw [hm];exact r1,Upd.refl _ _⟩
end Go.Proofs.YtpjbjdheeemdiaaGreatDoor
namespace Go.Js
open Go
def okC:Nat->Nat->BL->Bool
  | _,_,[]=>true
  | lo,hi,d::r=>decide (lo<=d.toNat)&&decide (d.toNat<=hi)&&okC 128 191 r
abbrev nRb (c:UInt8):Nat:=(ZAs c.toNat).1
abbrev loR (c:UInt8):Nat:=(ZAs c.toNat).2.1
abbrev hiR (c:UInt8):Nat:=(ZAs c.toNat).2.2
def ZmX:BL->Bool
  | []=>false
  | c::r=>decide (nRb c≠0)&&decide (r.length<nRb c)&&okC (loR c) (hiR c) r
def Zdz:BL->Bool
  | []=>false
  | c::r=>decide (nRb c≠0)&&decide (r.length+1=nRb c)&&okC (loR c) (hiR c) r
theorem Zs0:∀ (m:Nat) {lo hi:Nat} {r:BL},okC lo hi (r.take m)=true->m<=r.length->ZeO m lo hi r = .ok () (r.drop m)
  | 0,_,_,_,_,_=>rfl
  | m+1,_,_,[],_,hl=>by simp at hl
  | m+1,lo,hi,d::r,h,hl=>by
    simp only [Ayn,okC,Awn,decide_eq_true_eq] at h
    unfold ZeO
    rw [if_pos h.1,Zs0 m h.2 (by simpa using hl)]
    rfl
theorem Zqm:∀ (m:Nat) {lo hi:Nat} {r:BL},okC lo hi r=true->r.length<m->ZeO m lo hi r = .err 24 []
  | 0,_,_,_,_,hl=>by omega
  | m+1,_,_,[],_,_=>rfl
  | m+1,lo,hi,d::r,h,hl=>by
    simp only [okC,Awn,decide_eq_true_eq] at h
    unfold ZeO
    rw [if_pos h.1,Zqm m h.2 (by simpa using hl)]
theorem Zqn:∀ (m j:Nat) {lo hi:Nat} {r:BL},okC lo hi (r.take j)=true->okC lo hi (r.take (j+1))=false->j<m->j<r.length->ZeO m lo hi r = .err 22 (r.drop j)
  | 0,_,_,_,_,_,_,hm,_=>by omega
  | m+1,_,_,_,[],_,_,_,hl=>by simp at hl
  | m+1,0,lo,hi,d::r,_,h',_,_=>by
    unfold ZeO
    rw [if_neg (fun hc=>by simp [okC,hc.1,hc.2] at h')]
    rfl
  | m+1,j+1,lo,hi,d::r,h,h',hm,hl=>by
    simp only [Ayn,okC,Awn,decide_eq_true_eq] at h
    have h2:okC 128 191 (r.take (j+1))=false:=by
      have h3:okC lo hi (d::r.take (j+1))=false:=by simpa only [Ayn] using h'
      simpa [okC,h.1.1,h.1.2] using h3
    unfold ZeO
    rw [if_pos h.1,Zqn m j h.2 h2 (by omega) (by simpa using hl)]
    rfl
theorem Zql:∀ (m:Nat) {lo hi:Nat} {r q:BL},ZeO m lo hi r = .ok () q->okC lo hi (r.take m)=true/\m<=r.length/\q=r.drop m
  | 0,_,_,_,_,h=>by cases h;exact ⟨rfl,Ayk _,rfl⟩
  | m+1,_,_,[],_,h=>by cases h
  | m+1,lo,hi,d::r,q,h=>by
    unfold ZeO at h
    split at h
    ·rename_i hc
     obtain ⟨a,b,c⟩:=Zql m h
     refine ⟨?_,by simpa using b,by simpa using c⟩
     simp only [Ayn,okC,Awn,decide_eq_true_eq]
     exact ⟨hc,a⟩
    ·cases h
theorem Zgl (c:UInt8) (r:BL):ZcD (c::r)=if nRb c=0 then .err 22 (c::r) else ZeO (nRb c - 1) (loR c) (hiR c) r:=rfl
theorem Zpx {l q:BL} (h:ZcD l = .ok () q):∃ x,l=x++q/\Zdz x=true:=by
  rcases l with _ | ⟨c,r⟩
  ·cases h
  ·rw [Zgl] at h
   split at h
   ·cases h
   ·rename_i hn
    obtain ⟨a,b,e⟩:=Zql _ h
    refine ⟨c::r.take (nRb c - 1),by rw [e];simp,?_⟩
    simp only [Zdz,Awn,decide_eq_true_eq]
    refine ⟨⟨hn,?_⟩,a⟩
    rw [Ayo]
    have:nRb c≠0:=hn
    omega
theorem ZwE {x q:BL} (h:Zdz x=true):ZcD (x++q) = .ok () q:=by
  rcases x with _ | ⟨c,r⟩
  ·cases h
  ·simp only [Zdz,Awn,decide_eq_true_eq] at h
   obtain ⟨⟨hn,hl⟩,hc⟩:=h
   rw [Ayp,Zgl,if_neg hn,Zs0 (nRb c - 1)]
   ·rw [show nRb c - 1=r.length by omega];simp
   ·rw [show nRb c - 1=r.length by omega];simpa using hc
   ·simp;omega
theorem ZwF {l:BL} (h:ZmX l=true) (hn:Zdz l=false):ZcD l = .err 24 []:=by
  rcases l with _ | ⟨c,r⟩
  ·cases h
  ·simp only [ZmX,Awn,decide_eq_true_eq] at h
   obtain ⟨⟨h0,hl⟩,hc⟩:=h
   have hne:r.length+1≠nRb c:=by
     intro e
     simp [Zdz,e,hc,show nRb c≠0 from h0] at hn
   rw [Zgl,if_neg h0,Zqm _ hc (by have:=hl;omega)]
theorem ZwG {x:BL} {d:UInt8} {q:BL} (h:x=[]\/(ZmX x=true/\Zdz x=false)) (hd:ZmX (x++[d])=false):ZcD (x++d::q) = .err 22 (d::q):=by
  rcases x with _ | ⟨c,r⟩
  ·simp only [Ayq,ZmX,okC,Ayr,Ays] at hd ⊢
   rw [Zgl,if_pos]
   have:¬ (nRb d≠0/\0<nRb d):=by simpa using hd
   show nRb d=0
   omega
  ·rcases h with h | ⟨h,hn⟩
   ·cases h
   ·simp only [ZmX,Awn,decide_eq_true_eq] at h
    obtain ⟨⟨h0,hl⟩,hc⟩:=h
    have hne:r.length+1≠nRb c:=by
      intro e
      simp [Zdz,e,hc,show nRb c≠0 from h0] at hn
    rw [Ayp,Zgl,if_neg h0,Zqn _ r.length (r:=r++d::q)]
    ·simp
    ·simpa using hc
    ·have h3:okC (loR c) (hiR c) (r++[d])=false:=by
       simp only [Ayp,ZmX,Awe,List.length_singleton] at hd
       simpa [show nRb c≠0 from h0,show r.length+1<nRb c by have:=hl;omega] using hd
     rw [List.take_append,show r.length+1 - r.length=1 by omega,Awd (by omega)]
     exact h3
    ·have:=hl;show r.length<nRb c - 1;omega
    ·simp
theorem Zwu:∀ b:Fin 256,128<=b.val->(nRb ⟨⟨b⟩⟩=0/\Lib.firstT b.val % 8≠2/\Lib.firstT b.val % 8≠3/\Lib.firstT b.val % 8≠4) \/
    (nRb ⟨⟨b⟩⟩=Lib.firstT b.val % 8/\(nRb ⟨⟨b⟩⟩=2\/nRb ⟨⟨b⟩⟩=3\/nRb ⟨⟨b⟩⟩=4)/\loR ⟨⟨b⟩⟩=Lib.accLo (Lib.firstT b.val / 16)/\hiR ⟨⟨b⟩⟩=Lib.accHi (Lib.firstT b.val / 16)):=by
  decide +kernel
theorem ZER (c:UInt8) (h:128<=c.toNat):(nRb c=0/\Lib.firstT c.toNat % 8≠2/\Lib.firstT c.toNat % 8≠3/\Lib.firstT c.toNat % 8≠4) \/
    (nRb c=Lib.firstT c.toNat % 8/\(nRb c=2\/nRb c=3\/nRb c=4)/\loR c=Lib.accLo (Lib.firstT c.toNat / 16)/\hiR c=Lib.accHi (Lib.firstT c.toNat / 16)):=by
  rcases c with ⟨⟨b⟩⟩
  exact Zwu b h
theorem ZE6 (c:UInt8) (h:c.toNat<128):nRb c=1:=by unfold nRb ZAs;rw [if_pos h]
theorem ZNW {c:UInt8} {r:BL}:((c::r).getD 0 0)=c:=rfl
theorem ZcA (c:UInt8) (r:BL):(¬ ((Lib.decodeL (c::r)).1=65533/\(Lib.decodeL (c::r)).2=1)->(Lib.decodeL (c::r)).2=nRb c/\Zdz ((c::r).take (nRb c))=true) /\
    (Zdz ((c::r).take (nRb c))=true->¬ ((Lib.decodeL (c::r)).1=65533/\(Lib.decodeL (c::r)).2=1)):=by
  by_cases hc:c.toNat<128
  ·rw [Lib.decodeL_ascii c r hc]
   have hn:=ZE6 c hc
   refine ⟨fun _=>⟨hn.symm,?_⟩,fun _ h=>?_⟩
   ·rw [hn]
    simp [Zdz,hn,okC]
   ·simp at h;omega
  ·have h128:128<=c.toNat:=by omega
   rw [Lib.decodeL_N]
   simp only [ZNW]
   have hb:∀ i,((c::r).getD i 0).toNat<256:=fun i=>UInt8.toNat_lt _
   have key:=Lib.check_decode (c::r).length c.toNat ((c::r).getD 1 0).toNat ((c::r).getD 2 0).toNat ((c::r).getD 3 0).toNat (by simp) h128 c.toNat_lt (hb 1) (hb 2) (hb 3)
   rcases ZER c h128 with ⟨t0,t2,t3,t4⟩ | ⟨tn,tc,tl,th⟩
   ·have:Lib.checkN (c::r).length ((c::r).getD 1 0).toNat ((c::r).getD 2 0).toNat ((c::r).getD 3 0).toNat (Lib.firstT c.toNat % 8) (Lib.accLo (Lib.firstT c.toNat / 16)) (Lib.accHi (Lib.firstT c.toNat / 16))=none:=by
      unfold Lib.checkN;rw [if_neg t2,if_neg t3,if_neg t4]
    rw [this] at key
    rcases key with ⟨_,k⟩ | ⟨k,_,hk,_⟩
    ·rw [k]
     refine ⟨fun h=>absurd ⟨rfl,rfl⟩ h,fun h=>?_⟩
     rw [t0] at h;cases h
    ·cases hk
   ·rw [<- tn,<- tl,<- th] at key
    have hnd:nRb c≠0:=by omega
    rcases key with ⟨hk,k⟩ | ⟨k,hk2,hk,e⟩
    ·rw [k]
     refine ⟨fun h=>absurd ⟨rfl,rfl⟩ h,fun ho=>?_⟩
     exfalso
     unfold Lib.checkN at hk
     rcases tc with n | n | n<;>rw [n] at hk ho<;>simp only [Nat.reduceEqDiff,↓reduceIte] at hk<;>split at hk<;>cases hk
     ·rename_i hh
      rcases r with _ | ⟨d1,r⟩
      ·simp [Zdz,n] at ho
      ·simp [Zdz,n,okC] at ho hh;omega
     ·rename_i hh
      rcases r with _ | ⟨d1,_ | ⟨d2,r⟩⟩
      ·simp [Zdz,n] at ho
      ·simp [Zdz,n] at ho
      ·simp [Zdz,n,okC] at ho hh;omega
     ·rename_i hh
      rcases r with _ | ⟨d1,_ | ⟨d2,_ | ⟨d3,r⟩⟩⟩
      ·simp [Zdz,n] at ho
      ·simp [Zdz,n] at ho
      ·simp [Zdz,n] at ho
      ·simp [Zdz,n,okC] at ho hh;omega
    ·rw [e]
     have hkn:k=nRb c:=by
       unfold Lib.checkN at hk
       rcases tc with n | n | n<;>rw [n] at hk ⊢ <;> simp only [Nat.reduceEqDiff,↓reduceIte] at hk<;>split at hk<;>cases hk<;>rfl
     subst hkn
     refine ⟨fun _=>⟨rfl,?_⟩,fun _ h=>by omega⟩
     unfold Lib.checkN at hk
     rcases tc with n | n | n<;>rw [n] at hk ⊢ <;> simp only [Nat.reduceEqDiff,↓reduceIte] at hk<;>split at hk<;>cases hk
     ·rename_i hh
      rcases r with _ | ⟨d1,r⟩
      ·simp at hh
      ·simp [Zdz,n,okC] at hh ⊢;omega
     ·rename_i hh
      rcases r with _ | ⟨d1,_ | ⟨d2,r⟩⟩
      ·simp at hh
      ·simp at hh
      ·simp [Zdz,n,okC] at hh ⊢;omega
     ·rename_i hh
      rcases r with _ | ⟨d1,_ | ⟨d2,_ | ⟨d3,r⟩⟩⟩
      ·simp at hh
      ·simp at hh
      ·simp at hh
      ·simp [Zdz,n,okC] at hh ⊢;omega
def ZzG (n:Nat):Bool:=decide (55296<=n)&&decide (n<56320)
def ZDd (n:Nat):Bool:=decide (56320<=n)&&decide (n<57344)
def ZCV (n m:Nat):Nat:=65536+(n - 55296)*1024+(m - 56320)
theorem ZxR {n:Nat} (h:ZzG n=true):Zmp n=65533:=by
  simp [ZzG] at h
  unfold Zmp;rw [if_pos (by omega)]
inductive Tok where
  | ch (m:UInt8)
  | uni (n:Nat)
def Zpm:BL->Out Tok
  | []=> .err 24 []
  | c::l=>match Zhi c with
    | some m=> .ok (.ch m) l
    | none=>if c=117 then (ZiI 4 0 l).bind fun n r=> .ok (.uni n) r else .err 22 (c::l)
def flB:Option Nat->BL
  | none=>[]
  | some _=>Zhr 65533
def Zr7 (p:Option Nat) (out:BL):Tok->Option Nat × BL
  | .ch m=>(none,out++flB p++[m])
  | .uni k=>match p with
    | some n=>if ZDd k then (none,out++Zhr (ZCV n k)) else if ZzG k then (some k,out++Zhr 65533) else (none,out++Zhr 65533++Zhr (Zmp k))
    | none=>if ZzG k then (some k,out) else (none,out++Zhr (Zmp k))
def ZdB:Nat->Option Nat->BL->BL->Out BL
  | 0,_,_,_=> .err 24 []
  | _+1,_,_,[]=> .err 24 []
  | n+1,p,out,c::l =>
    if c.toNat<32 then .err 22 (c::l)
    else if c=34 then .ok (out++flB p) l
    else if c=92 then (Zpm l).bind fun t l2=>ZdB n (Zr7 p out t).1 (Zr7 p out t).2 l2
    else if c.toNat<128 then ZdB n none (out++flB p++[c]) l
    else (ZcD (c::l)).bind fun _ l2=>ZdB n none (out++flB p++upto (c::l) l2) l2
theorem Ze5 (n:Nat) (p:Option Nat) (out:BL) (c:UInt8) (l:BL):ZdB (n+1) p out (c::l) =
    if c.toNat<32 then .err 22 (c::l)
    else if c=34 then .ok (out++flB p) l
    else if c=92 then (Zpm l).bind fun t l2=>ZdB n (Zr7 p out t).1 (Zr7 p out t).2 l2
    else if c.toNat<128 then ZdB n none (out++flB p++[c]) l
    else (ZcD (c::l)).bind fun _ l2=>ZdB n none (out++flB p++upto (c::l) l2) l2:=rfl
theorem ZjG (n:Nat) (out:BL) (c:UInt8) (l:BL):Ziu (n+1) out (c::l) =
    if c.toNat<32 then .err 22 (c::l)
    else if c=34 then .ok out l
    else if c=92 then (ZrC l).bind fun o l2=>Ziu n (out++o) l2
    else if c.toNat<128 then Ziu n (out++[c]) l
    else (ZcD (c::l)).bind fun _ l2=>Ziu n (out++upto (c::l) l2) l2:=rfl
theorem Zk1 (c:UInt8) (l:BL):Zpm (c::l)=match Zhi c with
    | some m=> .ok (.ch m) l
    | none=>if c=117 then (ZiI 4 0 l).bind fun n r=> .ok (.uni n) r else .err 22 (c::l):=rfl
theorem Zgv (c:UInt8) (l:BL):ZrC (c::l)=match Zhi c with
    | some m=> .ok [m] l
    | none=>if c=117 then ZEJ l else .err 22 (c::l):=rfl
theorem Zit (l:BL):ZEJ l=(ZiI 4 0 l).bind fun n l1 =>
  match (if 55296<=n/\n<56320 then Zdn l1 else none) with
  | some l2=>(ZiI 4 0 l2).bind fun m l3=>if 56320<=m/\m<57344 then .ok (Zhr (65536+(n - 55296)*1024+(m - 56320))) l3 else .ok (Zhr (Zmp n)) l1
  | none=> .ok (Zhr (Zmp n)) l1:=rfl
theorem ZhT (a b:UInt8) (l:BL):Zdn (a::b::l)=if a=92/\b=117 then some l else none:=rfl
theorem Ze1:∀ (k:Nat) {n m:Nat} {l r:BL},ZiI k n l = .ok m r->r.length+k=l.length/\r <:+l
  | 0,_,_,_,_,h=>by cases h;exact ⟨rfl,Ayg _⟩
  | k+1,_,_,[],_,h=>by cases h
  | k+1,n,m,c::l,r,h=>by
    unfold ZiI at h
    split at h
    ·obtain ⟨a,b⟩:=Ze1 k h
     exact ⟨by simp;omega,Zbx b⟩
    ·cases h
theorem Zi2 {l r:BL} {t:Tok} (h:Zpm l = .ok t r):r.length<l.length/\r <:+l:=by
  rcases l with _ | ⟨c,l⟩
  ·cases h
  ·dsimp only [Zpm] at h
   split at h
   ·cases h;exact ⟨by simp,Aye _ _⟩
   ·split at h
    ·obtain ⟨n,l1,h1,h2⟩:=Xb h
     cases h2
     obtain ⟨a,b⟩:=Ze1 4 h1
     exact ⟨by simp;omega,Zbx b⟩
    ·cases h
theorem Zeo {l r:BL} (h:ZcD l = .ok () r):r.length<l.length/\r <:+l:=by
  obtain ⟨x,e,hx⟩:=Zpx h
  rw [e]
  refine ⟨?_,List.suffix_append _ _⟩
  rcases x with _ | ⟨c,x⟩
  ·cases hx
  ·simp only [Ayp,Aqj,Awe];omega
theorem ZeC {l l2:BL} (h:Zdn l=some l2):l=92::117::l2:=by
  rcases l with _ | ⟨a,_ | ⟨b,l⟩⟩
  ·cases h
  ·cases h
  ·rw [ZhT] at h
   split at h
   ·rename_i hc;cases h;rw [hc.1,hc.2]
   ·cases h
theorem Ze4:∀ (n m:Nat) (p:Option Nat) (out l:BL),l.length<n->l.length<m->ZdB n p out l=ZdB m p out l
  | 0,_,_,_,_,h,_=>by omega
  | _,0,_,_,_,_,h=>by omega
  | n+1,m+1,p,out,[],_,_=>rfl
  | n+1,m+1,p,out,c::l,hn,hm=>by
    have hn':l.length<n:=by simpa using hn
    have hm':l.length<m:=by simpa using hm
    unfold ZdB
    split
    ·rfl
    split
    ·rfl
    split
    ·cases e:Zpm l with
     | ok t r=>exact Ze4 n m _ _ r (by have:=(Zi2 e).1;omega) (by have:=(Zi2 e).1;omega)
     | err e r=>rfl
    split
    ·exact Ze4 n m _ _ l hn' hm'
    ·cases e:ZcD (c::l) with
     | ok t r=>exact Ze4 n m _ _ r (by have:=(Zeo e).1;simp at this;omega) (by have:=(Zeo e).1;simp at this;omega)
     | err e r=>rfl
theorem ZE8:Zhi 117=none:=by decide
theorem ZnT:∀ (n:Nat) (l:BL),l.length<n->(∀ out,Ziu n out l=ZdB n none out l) /\
    ∀ k out,ZzG k=true->ZdB n (some k) out l=match Zdn l with
      | some l2=>(ZiI 4 0 l2).bind fun m l3=>if ZDd m then ZdB n none (out++Zhr (ZCV k m)) l3 else ZdB n none (out++Zhr 65533) l
      | none=>ZdB n none (out++Zhr 65533) l
  | 0,_,h=>by omega
  | n+1,l,h=>by
    have second:∀ k out,ZzG k=true->ZdB (n+1) (some k) out l=match Zdn l with
      | some l2=>(ZiI 4 0 l2).bind fun m l3=>if ZDd m then ZdB (n+1) none (out++Zhr (ZCV k m)) l3 else ZdB (n+1) none (out++Zhr 65533) l
      | none=>ZdB (n+1) none (out++Zhr 65533) l:=by
      intro k out hk
      rcases l with _ | ⟨c,l⟩
      ·rfl
      cases hb:Zdn (c::l) with
      | some l2 =>
        have e:=ZeC hb
        cases e
        simp only
        conv=>lhs;rw [Ze5,if_neg (by decide),if_neg (by decide),if_pos rfl]
        have ht:Zpm (117::l2)=(ZiI 4 0 l2).bind fun n r=> .ok (.uni n) r:=by rw [Zk1,ZE8];rfl
        rw [ht]
        cases hh:ZiI 4 0 l2 with
        | err e r=>rfl
        | ok m l3 =>
          have hl:=(Ze1 4 hh).1
          simp only [Out.bind_ok,Zr7]
          simp only [Aqj] at h
          by_cases hm:ZDd m=true
          ·rw [if_pos hm,if_pos hm]
           exact Ze4 _ _ _ _ _ (by omega) (by omega)
          ·rw [if_neg hm,if_neg hm]
           conv=>rhs;rw [Ze5,if_neg (by decide),if_neg (by decide),if_pos rfl,ht,hh]
           simp only [Out.bind_ok,Zr7]
      | none =>
        simp only
        rw [Ze5,Ze5]
        split
        ·rfl
        split
        ·simp [flB]
        split
        ·rename_i h1 h2 h3
         subst h3
         cases ht:Zpm l with
         | err e r=>rfl
         | ok t r =>
           simp only [Out.bind_ok]
           cases t with
           | ch m=>simp [Zr7,flB]
           | uni m =>
             exfalso
             rcases l with _ | ⟨d,l⟩
             ·cases ht
             ·rw [Zk1] at ht
              cases hm:Zhi d with
              | some q=>rw [hm] at ht;cases ht
              | none =>
                rw [hm] at ht
                simp only at ht
                split at ht
                ·rename_i hd
                 subst hd
                 rw [ZhT,if_pos ⟨rfl,rfl⟩] at hb
                 cases hb
                ·cases ht
        split
        ·simp [flB]
        ·cases ZcD (c::l) with
         | err e r=>rfl
         | ok t r=>simp [flB]
    refine ⟨fun out=>?_,second⟩
    rcases l with _ | ⟨c,l⟩
    ·rfl
    have ih:=fun (r:BL) (hr:r.length<n)=>ZnT n r hr
    rw [ZjG,Ze5]
    split
    ·rfl
    split
    ·simp [flB]
    split
    ·rcases l with _ | ⟨d,l⟩
     ·rfl
     simp only [Aqj] at h
     rw [Zgv,Zk1]
     cases hm:Zhi d with
     | some m=>simp only [Out.bind_ok,Zr7,flB,Ayt];exact (ih l (by omega)).1 _
     | none =>
       simp only
       by_cases hd:d=117
       ·rw [if_pos hd,if_pos hd]
        rw [Zit]
        cases hh:ZiI 4 0 l with
        | err e r=>rfl
        | ok k l1 =>
          have hl:=(Ze1 4 hh).1
          simp only [Out.bind_ok]
          by_cases hk:ZzG k=true
          ·have hk':55296<=k/\k<56320:=by simpa [ZzG] using hk
           rw [if_pos hk',show Zr7 none out (.uni k)=(some k,out) by simp [Zr7,hk]]
           simp only
           rw [(ih l1 (by omega)).2 k out hk]
           cases hb:Zdn l1 with
           | none=>simp only [Out.bind_ok,ZxR hk];exact (ih l1 (by omega)).1 _
           | some l2 =>
             simp only
             cases hx:ZiI 4 0 l2 with
             | err e r=>rfl
             | ok m l3 =>
               have e:=ZeC hb
               have hl3:=(Ze1 4 hx).1
               simp only [Out.bind_ok]
               rw [e] at hl
               simp only [Aqj] at hl
               by_cases hm:ZDd m=true
               ·have hm':56320<=m/\m<57344:=by simpa [ZDd] using hm
                rw [if_pos hm,if_pos hm']
                exact (ih l3 (by omega)).1 _
               ·have hm':¬ (56320<=m/\m<57344):=by simpa [ZDd] using hm
                rw [if_neg hm,if_neg hm',ZxR hk]
                exact (ih l1 (by rw [e];simp only [Aqj];omega)).1 _
          ·have hk':¬ (55296<=k/\k<56320):=by simpa [ZzG] using hk
           rw [if_neg hk',show Zr7 none out (.uni k)=(none,out++Zhr (Zmp k)) by simp [Zr7,hk]]
           exact (ih l1 (by omega)).1 _
       ·rw [if_neg hd,if_neg hd];rfl
    split
    ·simp only [flB,Ayt];exact (ih l (by simpa using h)).1 _
    ·cases hr:ZcD (c::l) with
     | err e r=>rfl
     | ok t r=>simp only [Out.bind_ok,flB,Ayt];exact (ih r (by have:=(Zeo hr).1;simp at this h;omega)).1 _
end Go.Js
namespace Go.Proofs.YtpjbjdheeemdiaaGreatDoor
open Go Go.Fw Go.Js
theorem ZaN.keep {h h':Zc} (t:ZaN h) (he:∀ k,k<9->k<sz h->obj h' k=obj h k):ZaN h':=by
  have cell:∀ {b o:Nat} {v:Value},b<9->h.cell b o=some v->h'.cell b o=some v:=fun {b o v} hb hc=>by
    rw [<- hc];exact Zno (he b hb (Zx8 hc)) o
  have wc:∀ (w:World) (b o:Nat) (v:Value),b<9->World.cell? { w with heap:=h } ⟨b,o,none⟩=some v->w.heap=h'->w.cell? ⟨b,o,none⟩=some v:=fun w b o v hb hc hw=>by
    have:b<sz h:=by
      rcases Aqd b h.size with h9 | h9
      ·exact h9
      ·simp [World.cell?,Aqe h9] at hc
    have e:=he b hb this
    unfold obj at e
    rw [<- hc]
    subst hw
    simp only [World.cell?,e]
  refine ⟨fun w hw=>?_,fun w hw=>?_,?_,?_,?_⟩
  ·have:=t.utf { w with heap:=h } rfl
   exact ⟨fun c hc=>wc w _ _ _ (by decide) (this.1 c hc) hw,fun i hi=>⟨wc w _ _ _ (by decide) (this.2 i hi).1 hw,wc w _ _ _ (by decide) (this.2 i hi).2 hw⟩⟩
  ·have h1:=t.pow { w with heap:=h } rfl
   unfold Lib.TabIs World.var? at h1 ⊢
   have hg:Tryz.prog.globalNamed "internal/strconv.uint64pow10" = some 6:=by kernel_rfl
   rw [hg] at h1 ⊢
   simp only [Option.bind_some] at h1 ⊢
   have:6<sz h:=by
     rcases Aqd 6 h.size with h9 | h9
     ·exact h9
     ·rw [Aqe h9] at h1;cases h1
   have e:=he _ (by decide) this
   unfold obj at e
   subst hw
   rw [e];exact h1
  ·obtain ⟨a,b,c⟩:=t.range;exact ⟨a,b,cell (by decide) c⟩
  ·obtain ⟨a,b,c⟩:=t.syn;exact ⟨a,b,cell (by decide) c⟩
  ·obtain ⟨a,c⟩:=t.most;exact ⟨a,cell (by decide) c⟩
theorem ZaN.upd {S:Nat->Prop} {h h':Zc} (t:ZaN h) (u:Upd S h h') (hs:∀ k,S k->9<=k):ZaN h' :=
  t.keep fun k hk hl=>Zo u hl fun h9=>by have:=hs k h9;omega
theorem ZaN.ext {h h':Zc} (t:ZaN h) (u:Ext h h'):ZaN h':=t.keep fun k _ hl=>Zq u hl
structure Buf (h:Zc) (base:Nat) (x:Sl) (l:BL):Prop where
  len:x.len=l.length
  cap:x.len<=x.cap
  big:x.cap<9223372036854775808
  at_:(x.ptr=none/\x.cap=0)\/∃ (b:Nat) (c:List Value),x.ptr=some ⟨b,0,none⟩/\base<=b/\obj h b=some (.cells c.toArray 5 (0,0))/\c.length=x.cap/\l.map bv=c.take x.len/\l≠[]
theorem Buf.nil (h:Zc) (base:Nat):Buf h base ⟨none,0,0⟩ []:=⟨rfl,Aqo _,by decide,.inl ⟨rfl,rfl⟩⟩
theorem Buf.congr {h h':Zc} {base:Nat} {x:Sl} {l:BL} (hb:Buf h base x l) (he:∀ b,x.blk=some b->b<sz h->obj h' b=obj h b):Buf h' base x l:=by
  refine ⟨hb.len,hb.cap,hb.big,?_⟩
  rcases hb.at_ with h0 | ⟨b,c,hp,hbb,hc,hr⟩
  ·exact .inl h0
  ·exact .inr ⟨b,c,hp,hbb,(he b (by simp [Sl.blk,hp]) (ZaJ hc)).trans hc,hr⟩
theorem Buf.lt {h:Zc} {base:Nat} {x:Sl} {l:BL} (hb:Buf h base x l) {b:Nat} (e:x.blk=some b):base<=b/\b<sz h:=by
  rcases hb.at_ with ⟨hp,_⟩ | ⟨b',c,hp,hbb,hc,_⟩
  ·simp [Sl.blk,hp] at e
  ·simp [Sl.blk,hp] at e
   subst e
   exact ⟨hbb,ZaJ hc⟩
theorem Zw5 {h:Zc} {b o:Nat} {vs c:List Value} {e:TypeId} {f:Nat × Nat} (hb:obj h b=some (.cells c.toArray e f)):obj (h.puts b o vs) b=some (.cells (Za8 o vs c).toArray e f):=by
  rw [ZdE,if_pos rfl,hb,Zbz]
theorem ZhE:∀ (vs:List Value) (o:Nat) (c:List Value),(Za8 o vs c).length=c.length
  | [],o,c=>rfl
  | v::vs,o,c=>by unfold Za8;rw [ZhE vs];simp
theorem Zke:∀ (vs:List Value) (o:Nat) (c:List Value),o+vs.length<=c.length->(Za8 o vs c).take (o+vs.length)=c.take o++vs
  | [],o,c,h=>by simp [Za8]
  | v::vs,o,c,h=>by
    simp only [Aqj] at h
    unfold Za8
    rw [show o+(v::vs).length=(o+1)+vs.length by simp;omega,Zke vs (o+1) (c.set o v) (by simp;omega)]
    rw [Ayu,Ayv (by omega),Aqm (Aqo _)]
    simp
theorem ZwZ (l:BL):(l.map bv).all Yc=true:=by
  rw [Axc]
  intro v hv
  obtain ⟨b,_,rfl⟩:=Ayw.1 hv
  exact ZfT
theorem Buf.app {h:Zc} {base:Nat} {x:Sl} {l new:BL} {n:Nat} {cells:List Value} {K:Sl->Zc->Prop} (hb:Buf h base x l) (hbase:base<=sz h) (hn:n=new.length) (hc:cells=new.map bv) (hs:l.length+new.length<=1000000000)
    (hk:∀ x' h',Buf h' base x' (l++new)->Upd (fun k=>base<=k) h h'->sz h<=sz h'->K x' h'):Fw.app 5 1 1 [.int .u8 0] x n cells h K:=by
  subst hn hc
  have hlen:=hb.len
  have hcap:=hb.cap
  refine ⟨fun hroom=>?_,fun hgt=>⟨by omega,by omega,?_⟩⟩
  ·rcases hb.at_ with ⟨hp,h0⟩ | ⟨b,c,hp,hbb,hblk,hcl,hv,hne⟩
   ·left
    have hl0:new=[]:=Aqr (by omega)
    subst hl0
    refine ⟨rfl,?_⟩
    have:l=[]:=Aqr (by omega)
    subst this
    refine hk _ _ ⟨?_,hroom,hb.big,.inl ⟨hp,h0⟩⟩ (Upd.refl _ _) (Aqo _)
    simpa using hlen
   ·right
    refine ⟨b,0,hp,Zj1 hblk (by simp [hcl];omega),ZwZ new,?_⟩
    have hp1:=Zw5 (o:=0+x.len*1) (vs:=new.map bv) hblk
    refine hk _ _ ⟨by simp [hlen],hroom,hb.big,.inr ⟨b,_,hp,hbb,hp1,by rw [ZhE];exact hcl,?_,by simp [hne]⟩⟩ ((Upd.puts h b _ _).mono fun k _ hk=>by subst hk;exact hbb) (by rw [Ziv];exact Aqo _)
    have:=Zke (new.map bv) (0+x.len*1) c (by simp [hcl];omega)
    simp only [Ayx] at this
    rw [Ayy,hv]
    simpa using this.symm
  ·have hrow:rdS x 1 h fun old=>old=l.map bv:=by
     rcases hb.at_ with ⟨hp,h0⟩ | ⟨b,c,hp,hbb,hblk,hcl,hv,_⟩
     ·have:l=[]:=Aqr (by omega)
      subst this
      exact .inl ⟨by simpa using hlen,rfl⟩
     ·refine .inr ⟨b,0,l.map bv,hp,by simp [hlen],ZdR hblk fun i v hi=>?_,rfl⟩
      rw [hv,Aqf] at hi
      split at hi
      ·simpa using hi
      ·cases hi
   have next:∀ cap,x.len+new.length<=cap->cap<9223372036854775808->K ⟨some ⟨h.size,0,none⟩,x.len+new.length,cap⟩ (h.push (.cells (l.map bv++new.map bv++Zbt [.int .u8 0] (cap - (x.len+new.length))).toArray 5)):=fun cap h1 h2=>by
     refine hk _ _ ⟨by simp [hlen],h1,h2,.inr ⟨h.size,_,rfl,hbase,Zjc,?_,?_,fun h9=>by have h8:=congrArg List.length h9;rw [Awe,Ays] at h8;omega⟩⟩ ((Ext.push h _).upd _) (by rw [ZCF];omega)
     ·simp only [Awe,Ayx,Zie,List.length_singleton];omega
     ·rw [Ayy,Awc (by simp [hlen]),Awd (by simp [hlen])]
   rcases hrow with ⟨a,b⟩ | ⟨b,o,vs,a1,a2,a3,a4⟩
   ·refine .inl ⟨a,?_⟩
    have:l=[]:=by cases l with | nil=>rfl | cons c l=>cases b
    subst this
    exact next
   ·exact .inr ⟨b,o,vs,a1,a2,a3,by rw [a4];exact next⟩
def ZMt (T:TypeId):Prop:=T=188\/T=190
def Bld (h:Zc) (B:Nat) (T:TypeId) (out:BL):Prop:=ZMt T/\∃ (c:Value) (x:Sl),obj h B=some (.cells [c,slV x].toArray T (0,0))/\(c = .pointer none\/c = .pointer (At B))/\Buf h (B+1) x out
theorem Bld.lt {h:Zc} {B:Nat} {T:TypeId} {out:BL} (hb:Bld h B T out):B<sz h:=by
  obtain ⟨_,c,x,b,_⟩:=hb
  exact ZaJ b
theorem Bld.congr {h h':Zc} {B:Nat} {T:TypeId} {out:BL} (hb:Bld h B T out) (he:∀ b,B<=b->b<sz h->obj h' b=obj h b):Bld h' B T out:=by
  obtain ⟨hT,c,x,b,hc,hx⟩:=id hb
  exact ⟨hT,c,x,(he B (Aqo _) hb.lt).trans b,hc,hx.congr fun k hk hl=>he k (by have:=(hx.lt hk).1;omega) hl⟩
theorem Bld.upd {S:Nat->Prop} {h h':Zc} {B:Nat} {T:TypeId} {out:BL} (hb:Bld h B T out) (u:Upd S h h') (hs:∀ k,S k->k<B):Bld h' B T out :=
  hb.congr fun b h1 h2=>Zo u h2 fun h9=>by have:=hs b h9;omega
theorem Zl1 {h:Zc} {B:Nat} {T:TypeId} {out:BL} (hb:Bld h B T out) {K:HP} (hk:∀ h' x,Bld h' B T out->Upd (fun k=>B<=k) h h'->obj h' B=some (.cells [.pointer (At B),slV x].toArray T (0,0))->Buf h' (B+1) x out->sz h'=sz h->K h'):Yl (At B) K h:=by
  obtain ⟨hT,c,x,b,hc,hx⟩:=hb
  refine ⟨B,c,slV x,T,rfl,b,hT,?_⟩
  rcases hc with rfl | rfl
  ·left
   refine ⟨rfl,?_⟩
   have hp:obj (h.put B 0 (.pointer (some ⟨B,0,none⟩))) B=some (.cells [.pointer (At B),slV x].toArray T (0,0)):=by rw [Zrc,if_pos rfl,b,Zkd];rfl
   have hbuf:Buf (h.put B 0 (.pointer (some ⟨B,0,none⟩))) (B+1) x out:=hx.congr fun k hk hl=>by rw [Zrc,if_neg (by have:=(hx.lt hk).1;omega)]
   exact hk _ x ⟨hT,_,x,hp,.inr rfl,hbuf⟩ ((Upd.put h B 0 _).mono fun k _ hk=>by subst hk;exact Aqo _) hp hbuf ZET
  ·exact .inr ⟨rfl,hk h x ⟨hT,_,x,b,.inr rfl,hx⟩ (Upd.refl _ _) b hx rfl⟩
theorem ZrI {h:Zc} {B:Nat} {T:TypeId} {out:BL} {x x':Sl} {h':Zc} (hT:ZMt T) (hb:obj h B=some (.cells [.pointer (At B),slV x].toArray T (0,0))) (u:Upd (fun k=>B+1<=k) h h') (hx:Buf h' (B+1) x' out) {K:HP}
    (hk:∀ h9,Bld h9 B T out->Upd (fun k=>B<=k) h h9->obj h9 B=some (.cells [.pointer (At B),slV x'].toArray T (0,0))->K h9):Ze (At B) fun b7 o8=>st h' b7 (o8+1) (.slice x'.ptr x'.len x'.cap) K:=by
  have hb':obj h' B=some (.cells [.pointer (At B),slV x].toArray T (0,0)):=ZB hb u (by omega)
  refine Zu (Zjw hb' (by simp) Zsp fun h9 c9 u9 z9=>hk h9 ?_ ?_ ?_)
  ·exact ⟨hT,_,x',c9,.inr rfl,hx.congr fun k hk hl=>Zo u9 hl (by have:=(hx.lt hk).1;omega)⟩
  ·exact (u.mono fun k _ hk=>by omega).trans (u9.mono fun k _ hk=>by subst hk;exact Aqo _)
  ·exact c9
theorem ZkN {h:Zc} {B:Nat} {T:TypeId} {out:BL} (hb:Bld h B T out) {c:UInt8} {n:Int} (hn:n=c.toNat) (hs:out.length<900000000) {K:Value->HP} (hk:∀ h',Bld h' B T (out++[c])->Upd (fun k=>B<=k) h h'->K .nilIface h'):Yu (At B) n K h:=by
  subst hn
  unfold Yu ZaG
  refine Zl1 hb fun h1 x b1 u1 c1 hx z1=>Zu (rL (Zb c1 rfl) ?_)
  refine ZMk [c] 1 rfl rfl (by decide) fun b3 h4 hr e4 _=>hr.rd ?_
  have hx4:=hx.congr (h':=h4) fun k hk hl=>Zq e4 hl
  refine hx4.app (new:=[c]) (by have:=b1.lt;have:=e4.size;have:sz h1=h1.size:=rfl;have:sz h4=h4.size:=rfl;omega) rfl rfl (by simp;omega) fun x' h6 hx6 u6 z6=>?_
  exact ZrI b1.1 (Zl c1 e4) u6 hx6 fun h9 b9 u9 _=>hk h9 b9 (u1.trans ((e4.upd _).trans u9))
theorem ZqH {h:Zc} {B:Nat} {T:TypeId} {out:BL} (hb:Bld h B T out) {s:ByteArray} (hs:out.length+s.size<900000000) {K:Int->Value->HP} (hk:∀ h',Bld h' B T (out++s.data.toList)->Upd (fun k=>B<=k) h h'->K s.size .nilIface h'):Y0 (At B) s K h:=by
  unfold Y0 Zaj
  refine Za (Zl1 hb fun h1 x b1 u1 c1 hx z1=>Zu (rL (Zb c1 rfl) ?_))
  refine hx.app (new:=s.data.toList) (by have:=b1.lt;omega) (by simp) rfl (by simp;omega) fun x' h6 hx6 u6 z6=>?_
  exact ZrI b1.1 c1 u6 hx6 fun h9 b9 u9 _=>Za (hk h9 b9 (u1.trans u9))
theorem ZqT {h:Zc} {B:Nat} {T:TypeId} {out:BL} (hb:Bld h B T out) {K:ByteArray->HP} (hk:∀ h',Upd (fun k=>B<=k) h h'->K (Zk out) h'):Zae (At B) K h:=by
  obtain ⟨hT,c,x,b,hc,hx⟩:=hb
  refine ⟨B,c,x,T,rfl,b,?_⟩
  have hl:=hx.len
  rcases hx.at_ with ⟨hp,h0⟩ | ⟨g,cs,hp,hbb,hblk,hcl,hv,hne⟩
  ·left
   have hcap:=hx.cap
   have:out=[]:=Aqr (by omega)
   subst this
   exact ⟨hp,by simpa using hl,h0,hk h (Upd.refl _ _)⟩
  ·right
   have hlen:0<out.length:=List.length_pos_iff.2 hne
   refine ⟨g,Zk out,cs.toArray,(0,0),hp,by omega,by simp [hl,Zk,ByteArray.size],by simp [Zk,ByteArray.size];exact hne,hx.cap,by simp [hcl],hx.big,hblk,?_,fun h' u=>hk h' (u.mono fun k _ hk=>by subst hk;omega)⟩
   refine ZdR hblk fun i v hi=>?_
   have:Zba (Zk out)=out.map bv:=by unfold Zba bv;simp
   rw [this,hv,Aqf] at hi
   split at hi
   ·simpa using hi
   ·cases hi
end Go.Proofs.YtpjbjdheeemdiaaGreatDoor
namespace Go.Js
open Go
def fin {α:Type} (y:Out α):Prop:=(∃ a,y = .ok a [])\/y = .err 24 []
def Blk (b:BL):Prop:=∀ c∈b,XJ c=true
structure Sf {α:Type} (p:BL->Out α):Prop where
  suf:∀ {l a r},p l = .ok a r->r <:+l
  esuf:∀ {l e r},p l = .err e r->r <:+l/\(e=24↔r=[])
structure Pe (n:Nat) {α:Type} (p:BL->Out α):Prop where
  ext:∀ {x c r a},x.length<n->p (x++c::r) = .ok a (c::r)->∀ o,p (x++c::o) = .ok a (c::o)
  eext:∀ {x c r e},x.length<n->p (x++c::r) = .err e (c::r)->∀ o,p (x++c::o) = .err e (c::o)
  cutO:∀ {x c r a},x.length<n->p (x++c::r) = .ok a (c::r)->p x = .ok a []
  cutE:∀ {x c r e},x.length<n->p (x++c::r) = .err e (c::r)->fin (p x)
structure Pb (n:Nat) {α:Type} (s:Bool) (p:BL->Out α):Prop where
  bl:∀ {x b},x.length<n->x≠[]->p x = .err 24 []->Blk b->∃ e r,p (x++b) = .err e r/\r <:+b
  blo:∀ {x b a},x.length<n->x≠[]->p x = .ok a []->Blk b->∃ b',p (x++b) = .ok a b'/\b' <:+b/\(s=true->b'=b)
structure Bn {α:Type} (s:Bool) (p:BL->Out α):Prop where
  bl:∀ {b},p [] = .err 24 []->Blk b->∃ e r,p b = .err e r/\r <:+b
  blo:∀ {b a},p [] = .ok a []->Blk b->∃ b',p b = .ok a b'/\b' <:+b/\(s=true->b'=b)
structure St {α:Type} (k:Nat) (p:BL->Out α):Prop where
  len:∀ {l a r},p l = .ok a r->r.length+k<=l.length
theorem Blk.suf {b b':BL} (h:Blk b) (hs:b' <:+b):Blk b':=fun c hc=>h c (hs.subset hc)
theorem Blk.tail {c:UInt8} {b:BL} (h:Blk (c::b)):Blk b:=fun d hd=>h d (by simp [hd])
theorem ZfQ {c:UInt8} (h:XJ c=true):c=32\/c=9\/c=10\/c=13:=by
  simpa [XJ,or_assoc] using h
theorem ZsW {P:UInt8->Bool}:∀ {l:BL},l.dropWhile P=[]↔∀ c∈l,P c=true
  | []=>by simp
  | d::l=>by
    by_cases hd:P d=true
    ·rw [Ayi hd,ZsW (l:=l)]
     simp [hd]
    ·rw [Ayj hd]
     simp [hd]
theorem Zsz {x l1 w:BL} (h1:w <:+l1) (h2:l1 <:+x++w):∃ z y,x=z++y/\l1=y++w:=by
  obtain ⟨y,rfl⟩:=h1
  obtain ⟨z,hz⟩:=h2
  refine ⟨z,y,?_,rfl⟩
  rw [<- Ayz] at hz
  exact (List.append_cancel_right hz).symm
theorem Sf.nil {α:Type} {p:BL->Out α} (h:Sf p):fin (p []):=by
  cases e:p [] with
  | ok a r=>have:=h.suf e;rw [List.suffix_nil] at this;subst this;exact .inl ⟨a,rfl⟩
  | err k r =>
    obtain ⟨a,b⟩:=h.esuf e
    rw [List.suffix_nil] at a
    subst a
    rw [b.2 rfl];exact .inr rfl
theorem Sf.st {α:Type} {p:BL->Out α} (h:Sf p):St 0 p:=⟨fun e=>(h.suf e).length_le⟩
theorem Pe.ok {n:Nat} {α:Type} {p:BL->Out α} (h:Pe n p) {z y w:BL} {a:α} (hz:z.length<n) (hy:y≠[]) (e:p (z++(y++w)) = .ok a (y++w)) (w':BL):p (z++(y++w')) = .ok a (y++w'):=by
  rcases y with _ | ⟨d,y⟩
  ·exact absurd rfl hy
  ·exact h.ext hz e (y++w')
section
variable {α β:Type} {p:BL->Out α} {f:α->BL->Out β}
theorem Sf.bind (hp:Sf p) (hf:∀ a,Sf (f a)):Sf fun l=>(p l).bind f where
  suf:=fun h=>by
    obtain ⟨a,l1,h1,h2⟩:=Xb h
    exact ((hf a).suf h2).trans (hp.suf h1)
  esuf:=fun {l e r} h=>by
    cases h1:p l with
    | ok a l1 =>
      rw [h1] at h
      exact ⟨((hf a).esuf h).1.trans (hp.suf h1),((hf a).esuf h).2⟩
    | err k q =>
      rw [h1] at h
      cases h
      exact hp.esuf h1
theorem St.bind {k m:Nat} (hp:St k p) (hf:∀ a,St m (f a)):St (k+m) fun l=>(p l).bind f:=⟨fun {l b r} h=>by
  obtain ⟨a,l1,h1,h2⟩:=Xb h
  have:=hp.len h1
  have:=(hf a).len h2
  omega⟩
theorem Pe.bind {m k:Nat} (hp:Pe (m+k) p) (hs:Sf p) (hk:St k p) (hf:∀ a,Pe m (f a)) (hg:∀ a,Sf (f a)):Pe (m+k) fun l=>(p l).bind f where
  ext:=fun {x c r b} hx h o=>by
    obtain ⟨a,l1,h1,h2⟩:=Xb h
    obtain ⟨z,y,rfl,rfl⟩:=Zsz ((hg a).suf h2) (hs.suf h1)
    have hl:=hk.len h1
    simp only [Awe,Aqj] at hl hx
    rcases y with _ | ⟨d,y⟩
    ·simp only [Ayt,Ayq] at h1 h2 ⊢
     rw [hp.ext (by omega) h1 o]
     exact (hf a).ext (x:=[]) (by simp at hx hl ⊢;omega) h2 o
    ·rw [Ayz] at h1 ⊢
     rw [hp.ok (by omega) (by simp) h1 (c::o)]
     exact (hf a).ext (by simp at hx hl ⊢;omega) h2 o
  eext:=fun {x c r e} hx h o=>by
    cases h1:p (x++c::r) with
    | err k q=>rw [h1] at h;cases h;rw [hp.eext hx h1 o];rfl
    | ok a l1 =>
      rw [h1] at h
      have h2:f a l1 = .err e (c::r):=h
      obtain ⟨z,y,rfl,rfl⟩:=Zsz ((hg a).esuf h2).1 (hs.suf h1)
      have hl:=hk.len h1
      simp only [Awe,Aqj] at hl hx
      rcases y with _ | ⟨d,y⟩
      ·simp only [Ayt,Ayq] at h1 h2 ⊢
       rw [hp.ext (by omega) h1 o]
       exact (hf a).eext (x:=[]) (by simp at hx hl ⊢;omega) h2 o
      ·rw [Ayz] at h1 ⊢
       rw [hp.ok (by omega) (by simp) h1 (c::o)]
       exact (hf a).eext (by simp at hx hl ⊢;omega) h2 o
  cutO:=fun {x c r b} hx h=>by
    obtain ⟨a,l1,h1,h2⟩:=Xb h
    obtain ⟨z,y,rfl,rfl⟩:=Zsz ((hg a).suf h2) (hs.suf h1)
    have hl:=hk.len h1
    simp only [Awe,Aqj] at hl hx
    rcases y with _ | ⟨d,y⟩
    ·simp only [Ayt,Ayq] at h1 h2 ⊢
     rw [hp.cutO (by omega) h1]
     exact (hf a).cutO (x:=[]) (by simp at hx hl ⊢;omega) h2
    ·rw [Ayz] at h1
     have:=hp.ok (by omega) (by simp) h1 []
     rw [Ayt] at this
     rw [this]
     exact (hf a).cutO (by simp at hx hl ⊢;omega) h2
  cutE:=fun {x c r e} hx h=>by
    cases h1:p (x++c::r) with
    | err k q =>
      rw [h1] at h;cases h
      rcases hp.cutE hx h1 with ⟨a,ha⟩ | ha
      ·rw [ha];exact (hg a).nil
      ·rw [ha];exact .inr rfl
    | ok a l1 =>
      rw [h1] at h
      have h2:f a l1 = .err e (c::r):=h
      obtain ⟨z,y,rfl,rfl⟩:=Zsz ((hg a).esuf h2).1 (hs.suf h1)
      have hl:=hk.len h1
      simp only [Awe,Aqj] at hl hx
      rcases y with _ | ⟨d,y⟩
      ·simp only [Ayt,Ayq] at h1 h2 ⊢
       rw [hp.cutO (by omega) h1]
       exact (hg a).nil
      ·rw [Ayz] at h1
       have:=hp.ok (by omega) (by simp) h1 []
       rw [Ayt] at this
       rw [this]
       exact (hf a).cutE (by simp at hx hl ⊢;omega) h2
theorem Bn.bind {s s':Bool} (hp:Bn s p) (hs:Sf p) (hf:∀ a,Bn s' (f a)):Bn (s&&s') fun l=>(p l).bind f where
  bl:=fun {b} h hb=>by
    rcases hs.nil with ⟨a,ha⟩ | ha
    ·rw [ha] at h
     obtain ⟨b',e,hb',_⟩:=hp.blo ha hb
     rw [e]
     obtain ⟨k,r,e2,h2⟩:=(hf a).bl h (hb.suf hb')
     exact ⟨k,r,e2,h2.trans hb'⟩
    ·obtain ⟨k,r,e2,h2⟩:=hp.bl ha hb
     rw [e2];exact ⟨k,r,rfl,h2⟩
  blo:=fun {b a'} h hb=>by
    rcases hs.nil with ⟨a,ha⟩ | ha
    ·rw [ha] at h
     obtain ⟨b',e,hb',f1⟩:=hp.blo ha hb
     rw [e]
     obtain ⟨b2,e2,h2,f2⟩:=(hf a).blo h (hb.suf hb')
     refine ⟨b2,e2,h2.trans hb',fun hh=>?_⟩
     simp only [Awn] at hh
     rw [f2 hh.2,f1 hh.1]
    ·rw [ha] at h;cases h
theorem Pb.bind {m k:Nat} {s s':Bool} (he:Pe (m+k) p) (hp:Pb (m+k) s p) (hs:Sf p) (hk:St k p) (hf:∀ a,Pb m s' (f a)) (hn:∀ a,Bn s' (f a)):Pb (m+k) (s&&s') fun l=>(p l).bind f where
  bl:=fun {x b} hx hne h hb=>by
    cases h1:p x with
    | err e q =>
      rw [h1] at h;cases h
      obtain ⟨k,r,e2,h2⟩:=hp.bl hx hne h1 hb
      rw [e2];exact ⟨k,r,rfl,h2⟩
    | ok a l1 =>
      rw [h1] at h
      have h2:f a l1 = .err 24 []:=h
      have hl:=hk.len h1
      rcases l1 with _ | ⟨d,y⟩
      ·obtain ⟨b',e,hb',_⟩:=hp.blo hx hne h1 hb
       rw [e]
       obtain ⟨k,r,e2,h3⟩:=(hn a).bl h2 (hb.suf hb')
       exact ⟨k,r,e2,h3.trans hb'⟩
      ·obtain ⟨z,rfl⟩:=hs.suf h1
       simp only [Awe] at hx hl
       have:=he.ok (z:=z) (w:=[]) (y:=d::y) (by omega) (by simp) (by simpa using h1) b
       rw [Ayz,this]
       exact (hf a).bl (x:=d::y) (by omega) (by simp) h2 hb
  blo:=fun {x b a'} hx hne h hb=>by
    cases h1:p x with
    | err e q=>rw [h1] at h;cases h
    | ok a l1 =>
      rw [h1] at h
      have h2:f a l1 = .ok a' []:=h
      have hl:=hk.len h1
      rcases l1 with _ | ⟨d,y⟩
      ·obtain ⟨b',e,hb',f1⟩:=hp.blo hx hne h1 hb
       rw [e]
       obtain ⟨b2,e2,h3,f2⟩:=(hn a).blo h2 (hb.suf hb')
       refine ⟨b2,e2,h3.trans hb',fun hh=>?_⟩
       simp only [Awn] at hh
       rw [f2 hh.2,f1 hh.1]
      ·obtain ⟨z,rfl⟩:=hs.suf h1
       simp only [Awe] at hx hl
       have:=he.ok (z:=z) (w:=[]) (y:=d::y) (by omega) (by simp) (by simpa using h1) b
       rw [Ayz,this]
       obtain ⟨b2,e2,h3,f2⟩:=(hf a).blo (x:=d::y) (by omega) (by simp) h2 hb
       exact ⟨b2,e2,h3,fun hh=>f2 (by simp only [Awn] at hh;exact hh.2)⟩
end
def hdP {α:Type} (e0:Out α) (f:UInt8->BL->Out α):BL->Out α
  | []=>e0
  | c::l=>f c (c::l)
def tlP {α:Type} (g:BL->Out α):BL->Out α
  | []=> .err 24 []
  | _::l=>g l
def okP {α:Type} (a:α):BL->Out α:=fun l=> .ok a l
section
variable {α:Type} {n:Nat}
theorem ZAP {e0:Out α} {f:UInt8->BL->Out α} (h0:fin e0) (hf:∀ c,Sf (f c)):Sf (hdP e0 f) where
  suf:=fun {l a r} h=>by
    rcases l with _ | ⟨c,l⟩
    ·rcases h0 with ⟨b,h0⟩ | h0<;>(rw [show hdP e0 f []=e0 from rfl,h0] at h;cases h)
     exact Ayg _
    ·exact (hf c).suf h
  esuf:=fun {l a r} h=>by
    rcases l with _ | ⟨c,l⟩
    ·rcases h0 with ⟨b,h0⟩ | h0<;>(rw [show hdP e0 f []=e0 from rfl,h0] at h;cases h)
     simp
    ·exact (hf c).esuf h
theorem ZsK {e0:Out α} {f:UInt8->BL->Out α} (h0:e0 = .err 24 []\/∃ a,e0 = .ok a []/\∀ c r b,f c (c::r) = .ok b (c::r)->b=a) (hz:(∀ c r b,f c (c::r) = .ok b (c::r)->e0≠ .err 24 [])) (hf:∀ c,Pe n (f c)):Pe n (hdP e0 f) where
  ext:=fun {x c r a} hx h o=>by
    rcases x with _ | ⟨d,x⟩
    ·exact (hf c).ext (x:=[]) hx h o
    ·exact (hf d).ext hx h o
  eext:=fun {x c r a} hx h o=>by
    rcases x with _ | ⟨d,x⟩
    ·exact (hf c).eext (x:=[]) hx h o
    ·exact (hf d).eext hx h o
  cutO:=fun {x c r a} hx h=>by
    rcases x with _ | ⟨d,x⟩
    ·rcases h0 with h0 | ⟨b,h0,h1⟩
     ·exact absurd h0 (hz c r a h)
     ·rw [show hdP e0 f []=e0 from rfl,h0,h1 c r a h]
    ·exact (hf d).cutO hx h
  cutE:=fun {x c r a} hx h=>by
    rcases x with _ | ⟨d,x⟩
    ·rcases h0 with h0 | ⟨b,h0,_⟩
     ·exact .inr h0
     ·exact .inl ⟨b,h0⟩
    ·exact (hf d).cutE hx h
theorem ZsL {s:Bool} {e0:Out α} {f:UInt8->BL->Out α} (hf:∀ c,Pb n s (f c)):Pb n s (hdP e0 f) where
  bl:=fun {x b} hx hne h hb=>by
    rcases x with _ | ⟨d,x⟩
    ·exact absurd rfl hne
    ·exact (hf d).bl hx hne h hb
  blo:=fun {x b a} hx hne h hb=>by
    rcases x with _ | ⟨d,x⟩
    ·exact absurd rfl hne
    ·exact (hf d).blo hx hne h hb
theorem ZFs {s:Bool} {f:UInt8->BL->Out α} (hf:∀ c,XJ c=true->∃ e,f c=Za1 e):Bn s (hdP (.err 24 []) f) where
  bl:=fun {b} _ hb=>by
    rcases b with _ | ⟨c,b⟩
    ·exact ⟨24,[],rfl,Ayg _⟩
    ·obtain ⟨e,he⟩:=hf c (hb c (by simp))
     exact ⟨e,c::b,by rw [show hdP (.err 24 []) f (c::b)=f c (c::b) from rfl,he];rfl,Ayg _⟩
  blo:=fun h=>by cases h
theorem ZDg {s:Bool} {a0:α} {f:UInt8->BL->Out α} (hf:∀ c,XJ c=true->f c=okP a0):Bn s (hdP (.ok a0 []) f) where
  bl:=fun h=>by cases h
  blo:=fun {b a} h hb=>by
    cases h
    rcases b with _ | ⟨c,b⟩
    ·exact ⟨[],rfl,Ayg _,fun _=>rfl⟩
    ·exact ⟨c::b,by rw [show hdP (.ok a0 []) f (c::b)=f c (c::b) from rfl,hf c (hb c (by simp))];rfl,Ayg _,fun _=>rfl⟩
theorem ZlE {e0:Out α} {f:UInt8->BL->Out α} {k:Nat} (h0:∀ a r,e0 = .ok a r->r.length+k<=0) (hf:∀ c,St k (f c)):St k (hdP e0 f):=⟨fun {l a r} h=>by
  rcases l with _ | ⟨c,l⟩
  ·exact h0 a r h
  ·exact (hf c).len h⟩
theorem ZEQ {g:BL->Out α} (hg:Sf g):Sf (tlP g) where
  suf:=fun {l a r} h=>by
    rcases l with _ | ⟨c,l⟩
    ·cases h
    ·exact Zbx (hg.suf h)
  esuf:=fun {l a r} h=>by
    rcases l with _ | ⟨c,l⟩
    ·cases h;simp
    ·exact ⟨Zbx (hg.esuf h).1,(hg.esuf h).2⟩
theorem ZbM {g:BL->Out α} {k:Nat} (hg:St k g):St (k+1) (tlP g):=⟨fun {l a r} h=>by
  rcases l with _ | ⟨c,l⟩
  ·cases h
  ·have:=hg.len (l:=l) h;simp;omega⟩
theorem Zh5 {P:Prop} {c:UInt8} {r l:BL} (h:c::r <:+l) (hl:l.length<=r.length):P:=by
  have:=h.length_le;simp at this;omega
theorem ZmI {g:BL->Out α} (hs:Sf g) (hg:Pe n g):Pe (n+1) (tlP g) where
  ext:=fun {x c r a} hx h o=>by
    rcases x with _ | ⟨d,x⟩
    ·exact Zh5 (hs.suf (l:=r) h) (Aqo _)
    ·exact hg.ext (by simpa using hx) h o
  eext:=fun {x c r a} hx h o=>by
    rcases x with _ | ⟨d,x⟩
    ·exact Zh5 (hs.esuf (l:=r) h).1 (Aqo _)
    ·exact hg.eext (by simpa using hx) h o
  cutO:=fun {x c r a} hx h=>by
    rcases x with _ | ⟨d,x⟩
    ·exact Zh5 (hs.suf (l:=r) h) (Aqo _)
    ·exact hg.cutO (by simpa using hx) h
  cutE:=fun {x c r a} hx h=>by
    rcases x with _ | ⟨d,x⟩
    ·exact Zh5 (hs.esuf (l:=r) h).1 (Aqo _)
    ·exact hg.cutE (by simpa using hx) h
theorem ZmJ {s:Bool} {g:BL->Out α} (hg:Pb n s g) (hn:Bn s g):Pb (n+1) s (tlP g) where
  bl:=fun {x b} hx hne h hb=>by
    rcases x with _ | ⟨d,_ | ⟨d2,x⟩⟩
    ·exact absurd rfl hne
    ·exact hn.bl h hb
    ·exact hg.bl (x:=d2::x) (by simpa using hx) (by simp) h hb
  blo:=fun {x b a} hx hne h hb=>by
    rcases x with _ | ⟨d,_ | ⟨d2,x⟩⟩
    ·exact absurd rfl hne
    ·exact hn.blo h hb
    ·exact hg.blo (x:=d2::x) (by simpa using hx) (by simp) h hb
theorem Zw1 (a:α):Sf (okP a):=⟨fun h=>by cases h;exact Ayg _,fun h=>by cases h⟩
theorem Zw2 (a:α):Pe n (okP a) where
  ext:=fun {x c r b} _ h o=>by
    cases x with
    | nil=>cases h;rfl
    | cons d x=>injection h with h1 h2;have:=congrArg List.length h2;simp at this;omega
  eext:=fun _ h=>by cases h
  cutO:=fun {x c r b} _ h=>by
    cases x with
    | nil=>cases h;rfl
    | cons d x=>injection h with h1 h2;have:=congrArg List.length h2;simp at this;omega
  cutE:=fun _ h=>by cases h
theorem Zw3 (s:Bool) (a:α):Pb n s (okP a) where
  bl:=fun _ _ h=>by cases h
  blo:=fun {x b a'} _ hne h=>by injection h with h1 h2;exact absurd h2 hne
theorem Zw4 (s:Bool) (a:α):Bn s (okP a) where
  bl:=fun h=>by cases h
  blo:=fun {b a'} h _=>by cases h;exact ⟨b,rfl,Ayg _,fun _=>rfl⟩
theorem Zhc (a:α):St 0 (okP a):=⟨fun h=>by cases h;exact Aqo _⟩
theorem ZzY {e:Nat} (he:e≠24):Sf (Za1 e:BL->Out α) where
  suf:=fun {l a r} h=>by cases l<;>cases h
  esuf:=fun {l a r} h=>by
    cases l with
    | nil=>cases h;simp
    | cons c l=>cases h;simp [he]
theorem ZoB {e:Nat}:Pe n (Za1 e:BL->Out α) where
  ext:=fun {x c r a} _ h=>by cases x<;>cases h
  eext:=fun {x c r a} _ h o=>by
    cases x with
    | nil=>cases h;rfl
    | cons d x=>injection h with h1 h2;have:=congrArg List.length h2;simp at this;omega
  cutO:=fun {x c r a} _ h=>by cases x<;>cases h
  cutE:=fun {x c r a} _ h=>by
    cases x with
    | nil=>exact .inr rfl
    | cons d x=>injection h with h1 h2;have:=congrArg List.length h2;simp at this;omega
theorem ZoC {s:Bool} {e:Nat} (he:e≠24):Pb n s (Za1 e:BL->Out α) where
  bl:=fun {x b} _ hne h=>by
    cases x with
    | nil=>exact absurd rfl hne
    | cons d x=>injection h with h1 h2;exact absurd h1 he
  blo:=fun {x b a} _ hne h=>by cases x<;>cases h
theorem Za9 {k:Nat} {e:Nat}:St k (Za1 e:BL->Out α):=⟨fun {l a r} h=>by cases l<;>cases h⟩
end
def Zdy (P:UInt8->Bool):BL->Out Unit:=fun l=> .ok () (l.dropWhile P)
theorem ZoG (P:UInt8->Bool):Sf (Zdy P):=⟨fun h=>by cases h;exact Ayf _,fun h=>by cases h⟩
theorem Zjo (P:UInt8->Bool):St 0 (Zdy P):=(ZoG P).st
theorem ZsY {P:UInt8->Bool} {x w:BL} (h:(x++w).dropWhile P=w):∀ c∈x,P c=true:=by
  induction x with
  | nil=>intro c hc;cases hc
  | cons d x ih =>
    by_cases hd:P d=true
    ·rw [Ayp,Ayi hd] at h
     intro c hc
     rcases Awr.1 hc with rfl | hc
     ·exact hd
     ·exact ih h c hc
    ·rw [Ayp,Ayj hd] at h
     have:=congrArg List.length h
     simp at this
     omega
theorem ZsZ {n:Nat} (P:UInt8->Bool):Pe n (Zdy P) where
  ext:=fun {x c r a} _ h o=>by
    injection h with _ h
    have hx:=ZsY h
    rw [Aza hx] at h
    have hc:¬ P c=true:=by
      intro hc
      rw [Ayi hc] at h
      have:=(Ayf (l:=r) P).length_le
      rw [h] at this;simp at this;omega
    unfold Zdy
    rw [Aza hx,Ayj hc]
  eext:=fun _ h=>by cases h
  cutO:=fun {x c r a} _ h=>by
    injection h with _ h
    unfold Zdy
    rw [ZsW.2 (ZsY h)]
  cutE:=fun _ h=>by cases h
theorem Zz4 {n:Nat} (P:UInt8->Bool):Pb n false (Zdy P) where
  bl:=fun _ _ h=>by cases h
  blo:=fun {x b a} _ _ h _=>by
    injection h with _ h
    refine ⟨b.dropWhile P,?_,Ayf _,fun h=>by cases h⟩
    unfold Zdy
    rw [Aza (ZsW.1 h)]
theorem Zz5 (P:UInt8->Bool):Bn false (Zdy P) where
  bl:=fun h=>by cases h
  blo:=fun {b a} h _=>⟨b.dropWhile P,rfl,Ayf _,fun h=>by cases h⟩
theorem ZxY {n:Nat}:Pb n true (Zdy ZdP) where
  bl:=fun _ _ h=>by cases h
  blo:=fun {x b a} _ _ h hb=>by
    injection h with _ h
    refine ⟨b,?_,Ayg _,fun _=>rfl⟩
    unfold Zdy
    rw [Aza (ZsW.1 h)]
    rcases b with _ | ⟨c,b⟩
    ·rfl
    ·rw [Ayj]
     rcases ZfQ (hb c (by simp)) with rfl | rfl | rfl | rfl<;>decide
theorem ZxZ:Bn true (Zdy ZdP) where
  bl:=fun h=>by cases h
  blo:=fun {b a} h hb=>by
    refine ⟨b,?_,Ayg _,fun _=>rfl⟩
    unfold Zdy
    rcases b with _ | ⟨c,b⟩
    ·rfl
    ·rw [Ayj]
     rcases ZfQ (hb c (by simp)) with rfl | rfl | rfl | rfl<;>decide
def Zid {α:Type} (p:BL->Out α):BL->Out BL:=fun l=>(p l).bind fun _ r=> .ok (upto l r) r
theorem ZfI (x r:BL):upto (x++r) r=x:=by unfold upto;simp
theorem ZiJ {α:Type} {p:BL->Out α} {l r t:BL} (h:Zid p l = .ok t r):(∃ a,p l = .ok a r)/\t=upto l r:=by
  obtain ⟨a,l1,h1,h2⟩:=Xb h
  cases h2
  exact ⟨⟨a,h1⟩,rfl⟩
theorem Zh7 {α:Type} {p:BL->Out α} {l r:BL} {e:Nat} (h:Zid p l = .err e r):p l = .err e r:=by
  unfold Zid at h
  cases h1:p l with
  | ok a l1=>rw [h1] at h;cases h
  | err k q=>rw [h1] at h;cases h;rfl
theorem Zrv {α:Type} {p:BL->Out α} (hp:Sf p):Sf (Zid p) :=
  ⟨fun h=>by obtain ⟨⟨a,h1⟩,_⟩:=ZiJ h;exact hp.suf h1,fun h=>hp.esuf (Zh7 h)⟩
theorem Zoy {α:Type} {k:Nat} {p:BL->Out α} (hp:St k p):St k (Zid p):=⟨fun h=>by obtain ⟨⟨a,h1⟩,_⟩:=ZiJ h;exact hp.len h1⟩
theorem Zrw {α:Type} {n:Nat} {p:BL->Out α} (hp:Pe n p):Pe n (Zid p) where
  ext:=fun {x c r t} hx h o=>by
    obtain ⟨⟨a,h1⟩,rfl⟩:=ZiJ h
    unfold Zid
    rw [hp.ext hx h1 o,Out.bind_ok,ZfI,ZfI]
  eext:=fun {x c r e} hx h o=>by
    unfold Zid
    rw [hp.eext hx (Zh7 h) o];rfl
  cutO:=fun {x c r t} hx h=>by
    obtain ⟨⟨a,h1⟩,rfl⟩:=ZiJ h
    unfold Zid
    rw [hp.cutO hx h1,Out.bind_ok,ZfI]
    congr 1
    have:=ZfI x []
    rwa [Ayt] at this
  cutE:=fun {x c r e} hx h=>by
    unfold Zid
    rcases hp.cutE hx (Zh7 h) with ⟨a,h1⟩ | h1
    ·rw [h1];exact .inl ⟨_,rfl⟩
    ·rw [h1];exact .inr rfl
theorem ZxI {α:Type} {n:Nat} {p:BL->Out α} (hp:Pb n true p):Pb n true (Zid p) where
  bl:=fun {x b} hx hne h hb=>by
    obtain ⟨e,r,h1,h2⟩:=hp.bl hx hne (Zh7 h) hb
    exact ⟨e,r,by unfold Zid;rw [h1];rfl,h2⟩
  blo:=fun {x b t} hx hne h hb=>by
    obtain ⟨⟨a,h1⟩,rfl⟩:=ZiJ h
    obtain ⟨b',h2,h3,h4⟩:=hp.blo hx hne h1 hb
    have:=h4 rfl
    subst this
    refine ⟨b',?_,h3,h4⟩
    unfold Zid
    rw [h2,Out.bind_ok,ZfI]
    have:=ZfI x []
    rw [Ayt] at this
    rw [this]
theorem ZDo {α:Type} {p:BL->Out α} (hp:Bn true p):Bn true (Zid p) where
  bl:=fun {b} h hb=>by
    obtain ⟨e,r,h1,h2⟩:=hp.bl (Zh7 h) hb
    exact ⟨e,r,by unfold Zid;rw [h1];rfl,h2⟩
  blo:=fun {b t} h hb=>by
    obtain ⟨⟨a,h1⟩,rfl⟩:=ZiJ h
    obtain ⟨b',h2,h3,h4⟩:=hp.blo h1 hb
    have:=h4 rfl
    subst this
    refine ⟨b',?_,h3,h4⟩
    unfold Zid
    rw [h2,Out.bind_ok]
    simp [upto]
end Go.Js
