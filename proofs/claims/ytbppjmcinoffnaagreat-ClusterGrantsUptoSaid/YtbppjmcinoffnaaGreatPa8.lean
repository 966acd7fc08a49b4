/- From a law's model to the call: it returns true, and what was there is as it was. -/
import Derived.Below
import Derived.Test.YtbppjmcinoffnaaGreatRows
import Derived.Deep.Slices
import Derived.ChangeSlices
import Derived.Laws.Strings
import Derived.MapKept
import Derived.Test.YtbppjmcinoffnaaGreatPa7
set_option linter.unusedVariables false
set_option linter.unusedSimpArgs false
namespace Go.Fw
open Go Go.RowKit
theorem Zsc {P:Program} {f:FuncId} {s:Ze} (ok:Zm P f s) (t:Zan s.args) (w:World) {args:Array Value} (hargs:((Zan.evs s.args t).map EV.v).toArray=args)
    (h:s.sem t (fun r h'=>Zy9 s.res r = .bool true∧Ext w.heap h') (fun _ _=>False) w.heap):Calls P f args w fun e w'=>e = .returned (.bool true)∧Below w.heap.size w w':=by
  rw [← hargs]
  refine (ok.calls t _ _ w h).mono ?_
  rintro e w' (⟨r,rfl,hs,hr,hx⟩ | ⟨v,rfl,hs,hk⟩)
  ·exact ⟨by rw [hr],hs.2.1,hs.1,hs.2.2,hx.size,hx.old⟩
  ·exact hk.elim
end Go.Fw
namespace Go.Proofs.YtbppjmcinoffnaaGreat
open Go Go.Fw Go.ChangeShapes Go.WideShapes
theorem Zmu {n:Nat} (h:n≤maxLen):n<9223372036854775808:=by
  have e:maxLen=9223372036854775807:=by decide
  omega
theorem Zry {w:World} {a:Addr} {v:Value} (h:w.cell? a=some v):a=⟨a.block,a.off,none⟩:=by
  obtain ⟨b,o,s⟩:=a
  unfold World.cell? at h
  split at h
  ·cases s with
   | none=>rfl
   | some s=>simp at h
  ·cases h
theorem Zo8 {b o i:Nat}:(⟨b,o,none⟩:Addr).add i=⟨b,o+i,none⟩:=ZjL b o i
section
variable {H:Type} {enc:TypeId × Value→H} {P:Program} {w:World} {base:Nat} {spare:Nat→Bool} {held:Bool}
structure Zj6 (h:Zb) (s:Sl) (ll:List (List UInt8)):Prop where
  rows:∃ ss:List Sl,Row h s 1 (ss.map slV)∧ss.length=ll.length∧∀ (i:Nat) (x:Sl) (l:List UInt8),ss[i]?=some x→ll[i]?=some l→Bytes h x l
theorem Zj6.len {h:Zb} {s:Sl} {ll:List (List UInt8)} (hr:Zj6 h s ll):s.len=ll.length:=by
  obtain ⟨ss,h1,h2,_⟩:=hr.rows
  have:=h1.len
  simp at this
  omega
theorem Zj6.ext {h h':Zb} {s:Sl} {ll:List (List UInt8)} (hr:Zj6 h s ll) (he:Ext h h'):Zj6 h' s ll:=by
  obtain ⟨ss,h1,h2,h3⟩:=hr.rows
  exact ⟨ss,h1.ext he,h2,fun i x l hx hl=>(h3 i x l hx hl).ext he⟩
theorem Zj6.idx {h:Zb} {s:Sl} {ll:List (List UInt8)} (hr:Zj6 h s ll) {i:Int} {n:Nat} (hi:i=n) {l:List UInt8} (hl:ll[n]?=some l) {K:Sl→Prop} (hk:∀ x,Bytes h x l→K x) :
    Zap s.ptr s.len i 1 fun b o=>ldL h b o K:=by
  obtain ⟨ss,h1,h2,h3⟩:=hr.rows
  have hlt:n<ss.length:=by
    rw [h2]
    rcases Nat.lt_or_ge n ll.length with h | h
    ·exact h
    ·rw [List.getElem?_eq_none h] at hl;cases hl
  have hx:ss[n]?=some ss[n]:=List.getElem?_eq_getElem hlt
  refine Row.idx h1 hi (v:=slV ss[n]) (by simp [hx]) fun b o _ hc=>⟨ss[n],hc,hk _ (h3 n _ l hx hl)⟩
def total (ll:List (List UInt8)):Nat:=(ll.map fun l=>l.length+1).sum
theorem Zma (a b:List (List UInt8)):total (a++b)=total a+total b:=by simp [total]
theorem Zpj (ll:List (List UInt8)) (k:Nat):total (ll.take k)≤total ll:=by
  have:total ll=total (ll.take k)+total (ll.drop k):=by rw [← Zma,List.take_append_drop]
  omega
theorem ZjF {H:Type} (D:Nat→DataW H) (f:Nat→Nat):∀ (l:List Nat),(∀ i∈l,f i≤Rows.uptoBulk (D i))→(l.map f).sum≤Rows.uptoBulkAll (l.map D)
  | [],_=>by simp [Rows.uptoBulkAll]
  | i::l,h=>by
    have h1:=h i (by simp)
    have h2:=ZjF D f l fun j hj=>h j (by simp [hj])
    simp only [List.map_cons,List.sum_cons,Rows.uptoBulkAll]
    omega
end
end Go.Proofs.YtbppjmcinoffnaaGreat
namespace Go.Proofs.YtbppjmcinoffnaaGreat
open Go Go.Fw
theorem Za1 {h:Zb} {cells:List Value} {t:TypeId} {K:Nat→Zb→Prop} (hk:∀ h1,h1[h.size]?=some (.cells cells.toArray t (0,0))→Ext h h1→h1.size=h.size+1→K h.size h1):newC h cells t K :=
  ZdL (hk _ Zeg (Ext.push _ _) (by simp))
theorem YS {h:Zb} {b o:Nat} {k:IntKind} {n:Int} {c:Array Value} {e:TypeId} {K:Int→Prop} (hb:h[b]?=some (.cells c e (0,0))) (hc:c[o]?=some (.int k n)) (hk:K n):ldI h b o k K:=⟨n,(Zn hb).trans hc,hk⟩
theorem Znk {h:Zb} {b o:Nat} {n:ByteArray} {c:Array Value} {e:TypeId} {K:ByteArray→Prop} (hb:h[b]?=some (.cells c e (0,0))) (hc:c[o]?=some (.string n)) (hk:K n):ldS h b o K:=⟨n,(Zn hb).trans hc,hk⟩
theorem Zig {h:Zb} {b o:Nat} {v:Value} {K:Zb→Prop} {c:Array Value} {e:TypeId} (hb:h[b]?=some (.cells c e (0,0))) (ho:o<c.size) (hv:Zv v=true)
    (hk:∀ h',h'[b]?=some (.cells (c.setIfInBounds o v) e (0,0))→Upd (· = b) h h'→h'.size=h.size→K h'):st h b o v K:=by
  refine ⟨⟨c[o],by rw [Zn hb];simp [ho]⟩,?_,hv,hk _ (Zf2 hb) (Upd.put h b o v) ZeH⟩
  unfold Zb.froz;rw [hb];simp
theorem Zh {b o:Nat} {K:Nat→Nat→Prop} (hk:K b o):Zd (some ⟨b,o,none⟩) K:=⟨b,o,rfl,hk⟩
theorem Znl {h:Zb} {b o:Nat} {n:Bool} {c:Array Value} {e:TypeId} {K:Bool→Prop} (hb:h[b]?=some (.cells c e (0,0))) (hc:c[o]?=some (.bool n)) (hk:K n):ldB h b o K:=⟨n,(Zn hb).trans hc,hk⟩
theorem Zjk {h:Zb} {b o:Nat} {s:Sl} {c:Array Value} {e:TypeId} {K:Sl→Prop} (hb:h[b]?=some (.cells c e (0,0))) (hc:c[o]?=some (slV s)) (hk:K s):ldL h b o K:=⟨s,(Zn hb).trans hc,hk⟩
theorem ZfY {h:Zb} {b:Nat} {vs:List Value} {c:Array Value} {e:TypeId} {K:Zb→Prop} (hb:h[b]?=some (.cells c e (0,0))) (hc:c.size=vs.length) (hv:vs.all Zv=true)
    (hk:∀ h',h'[b]?=some (.cells vs.toArray e (0,0))→Upd (· = b) h h'→h'.size=h.size→K h'):sts h b 0 vs K:=by
  refine ⟨Zfe hb (by omega),hv,hk _ ?_ (Upd.puts h b 0 vs) Ze8⟩
  obtain ⟨c',hc',hl⟩:=Ze9 (vs:=vs) (o:=0) hb (by omega)
  rw [hc']
  have:c'=vs.toArray:=by
    apply Array.ext'
    rw [hl]
    simp
    omega
  rw [this]
theorem Zbn {h h':Zb} {b k:Nat} {x:Obj} (hq:h[b]?=some x) (hu:Upd (· = k) h h') (hne:b≠k):h'[b]?=some x:=by
  have hl:b<h.size:=by
    rcases Nat.lt_or_ge b h.size with hl | hl
    ·exact hl
    ·rw [Array.getElem?_eq_none hl] at hq;cases hq
  rw [hu.old b hl hne];exact hq
theorem Xi {h h':Zb} {b:Nat} {x:Obj} (hq:h[b]?=some x) (hu:Ext h h'):h'[b]?=some x:=by
  have hl:b<h.size:=by
    rcases Nat.lt_or_ge b h.size with hl | hl
    ·exact hl
    ·rw [Array.getElem?_eq_none hl] at hq;cases hq
  rw [hu.old b hl];exact hq
theorem Upd.then {S T:Nat→Prop} {a b c:Zb} (h:Upd S a b) (h':Upd T b c) (hs:∀ k,k<a.size→T k→S k):Upd S a c :=
  ⟨Nat.le_trans h.size h'.size,fun k hk hn=>(h'.old k (Nat.lt_of_lt_of_le hk h.size) fun hT=>hn (hs k hk hT)).trans (h.old k hk hn)⟩
theorem Zno {n:Int} (h0:0≤n) (h1:n<18446744073709551616):IntKind.wrap .u64 n=n:=by
  unfold IntKind.wrap
  have hb:(2:Int) ^ IntKind.u64.bits=18446744073709551616:=by decide
  have hs:IntKind.u64.signed=false:=rfl
  simp only [hb,hs,Bool.false_and,Bool.false_eq_true,if_false]
  omega
abbrev iv (n:Int):Value:= .int .i64 n
abbrev ZiL (h:Zb) (s:Sl) (l:List Int):Prop:=Row h s 1 (l.map iv)
theorem ZiL.length {h:Zb} {s:Sl} {l:List Int} (hb:ZiL h s l):s.len=l.length:=by
  have:=hb.len;simp at this;omega
theorem ZiL.idx {h:Zb} {s:Sl} {l:List Int} (hr:ZiL h s l) {i:Int} {n:Nat} (hi:i=n) {x:Int} (hv:l[n]?=some x) {K:Int→Prop} (hk:K x) :
    Zap s.ptr s.len i 1 fun b o=>ldI h b o .i64 K :=
  Row.idx hr hi (v:=iv x) (by simp [hv]) fun _ _ _ hc=>⟨_,hc,hk⟩
theorem Xl {h:Zb} {b:Nat} {x:Obj} (hq:h[b]?=some x):b<h.size:=by
  rcases Nat.lt_or_ge b h.size with hl | hl
  ·exact hl
  ·rw [Array.getElem?_eq_none hl] at hq;cases hq
theorem Z7 {α:Type} {f:α→List Value} {n:Nat} (hf:∀ a,(f a).length=n):∀ l:List α,(l.flatMap f).length=l.length*n
  | []=>by simp
  | a::l=>by rw [List.flatMap_cons,List.length_append,hf,Z7 hf l,List.length_cons,Nat.succ_mul];omega
theorem Zgw {α:Type} {f:α→List Value} {n:Nat} (hf:∀ a,(f a).length=n):∀ (l:List α) (i m:Nat) (a:α),l[i]?=some a→m<n→(l.flatMap f)[i*n+m]?=(f a)[m]?
  | [],i,m,a,h,_=>by simp at h
  | x::l,0,m,a,h,hm=>by
    simp only [List.getElem?_cons_zero,Option.some.injEq] at h
    subst h
    rw [List.flatMap_cons,Nat.zero_mul,Nat.zero_add,List.getElem?_append_left (by rw [hf];exact hm)]
  | x::l,i+1,m,a,h,hm=>by
    rw [List.flatMap_cons,List.getElem?_append_right (by rw [hf,Nat.succ_mul];omega),hf]
    have e:(i+1)*n+m - n=i*n+m:=by rw [Nat.succ_mul];omega
    rw [e]
    exact Zgw hf l i m a (by simpa using h) hm
theorem ZiI {α:Type} {f:α→List Value} {n:Nat} (hf:∀ a,(f a).length=n):∀ (l:List α) (i m:Nat) (v:Value) (a b:α),l[i]?=some a→m<n→f b=(f a).set m v→(l.flatMap f).set (i*n+m) v=(l.set i b).flatMap f
  | [],i,m,v,a,b,h,_,_=>by simp at h
  | x::l,0,m,v,a,b,h,hm,hb=>by
    simp only [List.getElem?_cons_zero,Option.some.injEq] at h
    subst h
    rw [List.flatMap_cons,Nat.zero_mul,Nat.zero_add,List.set_append_left _ _ (by rw [hf];exact hm),List.set_cons_zero,List.flatMap_cons,hb]
  | x::l,i+1,m,v,a,b,h,hm,hb=>by
    rw [List.flatMap_cons,List.set_append_right _ _ (by rw [hf,Nat.succ_mul];omega),hf]
    have e:(i+1)*n+m - n=i*n+m:=by rw [Nat.succ_mul];omega
    rw [e,ZiI hf l i m v a b (by simpa using h) hm hb,List.set_cons_succ,List.flatMap_cons]
theorem Own.ptr_ {h:Zb} {base:Nat} {s:Sl} {size:Nat} {vs:List Value} (ho:Own h base s size vs) {o:Nat} (hl:o<vs.length):∃ b,s.ptr=some ⟨b,0,none⟩∧s.blk=some b:=by
  rcases ho.at_ with ⟨_,h0⟩ | ⟨b,c,e,hp,_⟩
  ·have h1:=ho.cap
   have h2:=ho.len
   have:s.len=0:=by omega
   rw [this,Nat.zero_mul] at h2
   omega
  ·exact ⟨b,hp,by simp [Sl.blk,hp]⟩
theorem Own.cell_ {h:Zb} {base:Nat} {s:Sl} {size:Nat} {vs:List Value} (ho:Own h base s size vs) {b o:Nat} (hb:s.blk=some b) {v:Value} (hv:vs[o]?=some v):h.cell b o=some v:=by
  rcases ho.at_ with ⟨hp,_⟩ | ⟨b',c,e,hp,_,hc,_,hvs⟩
  ·simp [Sl.blk,hp] at hb
  ·simp [Sl.blk,hp] at hb
   subst hb
   rw [Zn hc]
   rw [hvs,List.getElem?_take] at hv
   split at hv
   ·simpa using hv
   ·cases hv
theorem Own.stCell {h:Zb} {base:Nat} {s:Sl} {size:Nat} {vs:List Value} (ho:Own h base s size vs) {b o:Nat} (hb:s.blk=some b) (hl:o<vs.length) {v:Value} (hv:Zv v=true) {K:Zb→Prop}
    (hk:∀ h',Own h' base s size (vs.set o v)→Upd (fun k=>s.blk=some k) h h'→h'.size=h.size→K h'):st h b o v K:=by
  have hlen:=ho.len
  rcases ho.at_ with ⟨hp,_⟩ | ⟨b',c,e,hp,hbb,hc,hcs,hvs⟩
  ·simp [Sl.blk,hp] at hb
  ·have hb':=hb
   simp [Sl.blk,hp] at hb
   subst hb
   have hlc:o<c.size:=by
     have:=congrArg List.length hvs
     simp at this
     omega
   refine Zig hc hlc hv fun h' c' u' z'=>hk h' ⟨by simpa using hlen,ho.cap,ho.big,.inr ⟨b',_,e,hp,hbb,c',by simpa using hcs,?_⟩⟩ (u'.mono fun k _ hk=>by subst hk;exact hb') z'
   rw [hvs,Array.toList_setIfInBounds,List.take_set]
structure ZjR where
  way:List UInt8
  come:List UInt8
  x:Bool
structure Cn where
  s0:ZjR
  s1:ZjR
  port:Int
  brk:Bool
structure Rw where
  w0:Sl
  c0:Sl
  w1:Sl
  c1:Sl
abbrev Q:=Rw × Cn
def qC (q:Q):List Value:=[slV q.1.w0,slV q.1.c0,.bool q.2.s0.x,slV q.1.w1,slV q.1.c1,.bool q.2.s1.x,.int .i64 q.2.port,.bool q.2.brk]
structure ZgM (h:Zb) (T:Nat→Option Nat) (x:Sl) (tag:Nat) (l:List UInt8):Prop where
  own:Own h 0 x 1 (l.map bv)
  tag:∀ k,x.blk=some k→T k=some tag
structure QR (h:Zb) (T:Nat→Option Nat) (i:Nat) (q:Q):Prop where
  w0:ZgM h T q.1.w0 (4*i+3) q.2.s0.way
  c0:ZgM h T q.1.c0 (4*i+4) q.2.s0.come
  w1:ZgM h T q.1.w1 (4*i+5) q.2.s1.way
  c1:ZgM h T q.1.c1 (4*i+6) q.2.s1.come
structure Zg8 (es:Array MapEntry) (ps:Int→Bool):Prop where
  key:∀ x,x∈es.toList→∃ n,x.key=iv n∧x.val = .bool true
  apart:es.toList.Pairwise fun x y=>x.key≠y.key
  has:∀ n,ps n=true↔∃ x,x∈es.toList∧x.key=iv n
def Xu (h:Zb) (mb:Nat) (ps:Int→Bool):Prop :=
  ∃ es c,h[mb]?=some (.map es c)∧Zg8 es ps
structure ZeD (h:Zb) (T:Nat→Option Nat) (nb mb:Nat) (s:Sl) (ps:Int→Bool) (qs:List Q):Prop where
  cells:h[nb]?=some (.cells #[.map (some mb),slV s] 60 (0,0))
  tn:T nb=some 0
  ports:Xu h mb ps
  tm:T mb=some 1
  row:Own h 0 s 8 (qs.flatMap qC)
  tr:∀ k,s.blk=some k→T k=some 2
  each:∀ i q,qs[i]?=some q→QR h T i q
  lt:∀ k,T k≠none→k<h.size
def Net (h:Zb) (T:Nat→Option Nat) (nb:Nat) (ps:Int→Bool) (cs:List Cn):Prop:=∃ mb s qs,ZeD h T nb mb s ps qs∧qs.map (·.2)=cs
structure Stp (T T':Nat→Option Nat) (h h':Zb):Prop where
  upd:Upd (fun k=>T k≠none) h h'
  new:∀ k,T' k≠none→T k≠none∨h.size≤k
theorem Stp.refl (T:Nat→Option Nat) (h:Zb):Stp T T h h:=⟨Upd.refl _ _,fun _ h=> .inl h⟩
theorem Stp.trans {T T' T'':Nat→Option Nat} {a b c:Zb} (h:Stp T T' a b) (h':Stp T' T'' b c):Stp T T'' a c:=by
  refine ⟨Upd.then h.upd h'.upd fun k hk hT=>?_,fun k hk=>?_⟩
  ·rcases h.new k hT with h1 | h1
   ·exact h1
   ·omega
  ·have:=h.upd.size
   rcases h'.new k hk with h1 | h1
   ·exact h.new k h1
   ·exact .inr (by omega)
theorem Stp.ext {T T':Nat→Option Nat} {a b c:Zb} (h:Ext a b) (h':Stp T T' b c) (hT:∀ k,T k≠none→a.size≤k):Ext a c:=h.then h'.upd hT
theorem Stp.low {T T':Nat→Option Nat} {a b c:Zb} (h:Ext a b) (h':Stp T T' b c) (hT:∀ k,T k≠none→a.size≤k):∀ k,T' k≠none→a.size≤k:=fun k hk=>by
  have:=h.size
  rcases h'.new k hk with h1 | h1
  ·exact hT k h1
  ·omega
theorem ZgM.congr {h h':Zb} {T:Nat→Option Nat} {x:Sl} {tag:Nat} {l:List UInt8} (hr:ZgM h T x tag l) (he:∀ k,T k=some tag→k<h.size→h'[k]?=h[k]?):ZgM h' T x tag l :=
  ⟨hr.own.congr fun k hk hl _=>he k (hr.tag k hk) hl,hr.tag⟩
theorem ZgM.tags {h:Zb} {T T':Nat→Option Nat} {x:Sl} {tag:Nat} {l:List UInt8} (hr:ZgM h T x tag l) (he:∀ k,T k≠none→T' k=T k):ZgM h T' x tag l :=
  ⟨hr.own,fun k hk=>by have:=hr.tag k hk;rw [he k (by rw [this];simp),this]⟩
theorem ZeD.congr {h h':Zb} {T:Nat→Option Nat} {nb mb:Nat} {s:Sl} {ps:Int→Bool} {qs:List Q} (hn:ZeD h T nb mb s ps qs) (he:∀ k,T k≠none→k<h.size→h'[k]?=h[k]?) (hs:h.size≤h'.size):ZeD h' T nb mb s ps qs:=by
  have hm:=hn.ports
  refine ⟨?_,hn.tn,?_,hn.tm,?_,hn.tr,fun i q hq=>?_,fun k hk=>Nat.lt_of_lt_of_le (hn.lt k hk) hs⟩
  ·rw [he nb (by rw [hn.tn];simp) (Xl hn.cells)];exact hn.cells
  ·obtain ⟨es,c,hb,hr⟩:=hm
   exact ⟨es,c,by rw [he mb (by rw [hn.tm];simp) (Xl hb)];exact hb,hr⟩
  ·exact hn.row.congr fun k hk hl _=>he k (by rw [hn.tr k hk];simp) hl
  ·obtain ⟨a,b,c,d⟩:=hn.each i q hq
   exact ⟨a.congr fun k hk=>he k (by rw [hk];simp),b.congr fun k hk=>he k (by rw [hk];simp),c.congr fun k hk=>he k (by rw [hk];simp),d.congr fun k hk=>he k (by rw [hk];simp)⟩
theorem ZeD.upd {h h':Zb} {T:Nat→Option Nat} {nb mb:Nat} {s:Sl} {ps:Int→Bool} {qs:List Q} {S:Nat→Prop} (hn:ZeD h T nb mb s ps qs) (hu:Upd S h h') (hd:∀ k,k<h.size→S k→T k=none):ZeD h' T nb mb s ps qs :=
  hn.congr (fun k hk hl=>hu.old k hl fun hS=>hk (hd k hl hS)) hu.size
theorem ZeD.ext {h h':Zb} {T:Nat→Option Nat} {nb mb:Nat} {s:Sl} {ps:Int→Bool} {qs:List Q} (hn:ZeD h T nb mb s ps qs) (he:Ext h h'):ZeD h' T nb mb s ps qs :=
  hn.congr (fun k _ hl=>he.old k hl) he.size
theorem Net.upd {h h':Zb} {T:Nat→Option Nat} {nb:Nat} {ps:Int→Bool} {cs:List Cn} {S:Nat→Prop} (hn:Net h T nb ps cs) (hu:Upd S h h') (hd:∀ k,k<h.size→S k→T k=none):Net h' T nb ps cs:=by
  obtain ⟨mb,s,qs,hr,hc⟩:=hn
  exact ⟨mb,s,qs,hr.upd hu hd,hc⟩
theorem Net.ext {h h':Zb} {T:Nat→Option Nat} {nb:Nat} {ps:Int→Bool} {cs:List Cn} (hn:Net h T nb ps cs) (he:Ext h h'):Net h' T nb ps cs:=hn.upd (he.upd fun _=>False) fun _ _ h=>h.elim
def Rw.get (r:Rw) (e c:Nat):Sl:=if e=0 then (if c=0 then r.w0 else r.c0) else (if c=0 then r.w1 else r.c1)
def Rw.put (r:Rw) (e c:Nat) (x:Sl):Rw:=if e=0 then (if c=0 then { r with w0:=x } else { r with c0:=x }) else (if c=0 then { r with w1:=x } else { r with c1:=x })
def Cn.side (q:Cn) (e:Nat):ZjR:=if e=0 then q.s0 else q.s1
def Cn.putS (q:Cn) (e:Nat) (s:ZjR):Cn:=if e=0 then { q with s0:=s } else { q with s1:=s }
def ZjR.get (s:ZjR) (c:Nat):List UInt8:=if c=0 then s.way else s.come
def ZjR.put (s:ZjR) (c:Nat) (l:List UInt8):ZjR:=if c=0 then { s with way:=l } else { s with come:=l }
def Q.put (q:Q) (e c:Nat) (x:Sl) (l:List UInt8):Q:=(q.1.put e c x,q.2.putS e ((q.2.side e).put c l))
theorem two (e:Nat) (h:e<2):e=0∨e=1:=by omega
theorem QR.get {h:Zb} {T:Nat→Option Nat} {i:Nat} {q:Q} (hq:QR h T i q) {e c:Nat} (he:e<2) (hc:c<2):ZgM h T (q.1.get e c) (4*i+3+2*e+c) ((q.2.side e).get c):=by
  rcases two e he with rfl | rfl<;>rcases two c hc with rfl | rfl
  ·exact hq.w0
  ·exact hq.c0
  ·exact hq.w1
  ·exact hq.c1
theorem QR.put {h:Zb} {T:Nat→Option Nat} {i:Nat} {q:Q} (hq:QR h T i q) {e c:Nat} (he:e<2) (hc:c<2) {x:Sl} {l:List UInt8} (hx:ZgM h T x (4*i+3+2*e+c) l):QR h T i (Q.put q e c x l):=by
  rcases two e he with rfl | rfl<;>rcases two c hc with rfl | rfl
  ·exact ⟨hx,hq.c0,hq.w1,hq.c1⟩
  ·exact ⟨hq.w0,hx,hq.w1,hq.c1⟩
  ·exact ⟨hq.w0,hq.c0,hx,hq.c1⟩
  ·exact ⟨hq.w0,hq.c0,hq.w1,hx⟩
abbrev Rq:=Int × Int × Int × Int × ByteArray × Int × Unit
abbrev An:=Int × Int × Int × Int × Int × Unit
def inB (n lo hi:Int):Bool:=decide (n≥lo)&&decide (n≤hi)
theorem ZcT {n lo hi:Int} {K:Bool→Zb→Prop} {h:Zb} (hk:K (inB n lo hi) h):ZaP n lo hi K h:=by
  unfold ZaP Zgg
  unfold inB at hk
  refine ⟨fun e=>Zx ?_,fun e=>?_⟩
  ·rw [e] at hk;exact hk
  ·rw [e] at hk;exact hk
def ZgF (c:UInt8):Bool:=decide (33≤c.toNat)&&decide (c.toNat≤126)
def Zhk (s:ByteArray):Bool:=decide (1≤s.size)&&decide (s.size≤64)&&s.data.toList.all ZgF
theorem ZsJ {s:ByteArray} {k:Nat} (h:k<s.size):∃ c:UInt8,s[k]?=some c∧s.data.toList[k]?=some c:=by
  refine ⟨s[k],?_,?_⟩
  ·exact getElem?_pos s k h
  ·rw [Array.getElem?_toList]
   exact getElem?_pos s.data k h
theorem ZsU {l:List UInt8} {k:Nat} {c:UInt8} (h:l[k]?=some c) (hc:ZgF c=false):l.all ZgF=false:=by
  rw [List.all_eq_false]
  exact ⟨c,List.mem_of_getElem? h,by simp [hc]⟩
theorem Zo6 {l:List UInt8} {k:Nat} {c:UInt8} (h:l[k]?=some c) (hc:ZgF c=true) (ht:(l.take k).all ZgF=true):(l.take (k+1)).all ZgF=true:=by
  have hk:k<l.length:=by
    rcases Nat.lt_or_ge k l.length with h9 | h9
    ·exact h9
    ·rw [List.getElem?_eq_none h9] at h;cases h
  rw [List.take_succ_eq_append_getElem hk]
  have:l[k]=c:=by rw [List.getElem?_eq_getElem hk] at h;exact Option.some.inj h
  simp [ht,this,hc]
theorem ZnS {s:ByteArray} (hs:s.size<9223372036854775808) {K:Bool→Zb→Prop} {h:Zb} (hk:K (Zhk s) h):ZcN s K h:=by
  unfold ZcN ZeY
  refine Yc (fun p h'=>h'=h∧∃ k:Nat,p.1=(k:Int)∧k≤s.size∧(s.data.toList.take k).all ZgF=true) (fun p _=>s.size - p.1.toNat) ⟨rfl,0,rfl,Nat.zero_le _,by simp⟩ ?_
  rintro ⟨i,u⟩ h' ⟨rfl,k,hi,hkl,hall⟩
  dsimp only at hi
  subst hi
  dsimp only
  refine Zj (fun hlt=>Za ?_) (fun hge=>?_)
  ·have hk1:k<s.size:=by omega
   obtain ⟨c,h1,h2⟩:=ZsJ hk1
   have hc8:=c.toNat_lt
   refine ⟨c,by omega,by rw [Int.toNat_natCast];exact h1,ZcT ?_⟩
   rw [ZR (by omega) (by omega)]
   have e:inB (c.toNat:Int) 33 126=ZgF c:=by
     unfold inB ZgF
     congr 1
     ·exact decide_eq_decide.2 (by omega)
     ·exact decide_eq_decide.2 (by omega)
   rw [e]
   refine ⟨fun hb=>?_,fun hb=>?_⟩
   ·have hb':ZgF c=false:=by simpa using hb
    have:Zhk s=false:=by unfold Zhk;rw [ZsU h2 hb',Bool.and_false]
    rw [this] at hk;exact hk
   ·have hb':ZgF c=true:=by simpa using hb
    rw [ZR (n:=(k:Int)+1) (by omega) (by omega)]
    exact ⟨⟨rfl,k+1,by omega,by omega,Zo6 h2 hb' hall⟩,by omega⟩
  ·have hfull:s.data.toList.take k=s.data.toList:=List.take_of_length_le (by
     have:s.data.toList.length=s.size:=by simp
     omega)
   rw [hfull] at hall
   refine ZcT (Zx ?_)
   have:Zhk s=inB (s.size:Int) 1 64:=by
     unfold Zhk inB
     rw [hall,Bool.and_true]
     congr 1
     ·exact decide_eq_decide.2 (by omega)
     ·exact decide_eq_decide.2 (by omega)
   rw [← this]
   exact hk
def ZmK (r:Rq):Bool:=inB r.2.2.1 1 1099511627776&&inB r.2.2.2.1 1 1099511627776
def Zod (r:Rq):Bool:=r.2.2.1 ==0&&r.2.2.2.1 ==0
def XA (r:Rq):Bool :=
  inB r.1 0 2147483647 &&
  (bif (r.2.1 ==1||r.2.1 ==3) then ZmK r&&r.2.2.2.2.2.1 ==0&&r.2.2.2.2.1.size ==0
   else bif r.2.1 ==2 then ZmK r&&r.2.2.2.2.2.1 ==0&&decide (r.2.2.2.2.1.size≤64)
   else bif r.2.1 ==4 then Zod r&&inB r.2.2.2.2.2.1 1 2147483647&&r.2.2.2.2.1.size ==0
   else bif r.2.1 ==5 then Zod r&&r.2.2.2.2.2.1 ==0&&Zhk r.2.2.2.2.1
   else false)
def ZeG (a:An):Bool:=inB a.1 0 2147483647&&(decide (a.2.1≥1)&&(decide (a.2.1≤8)&&(inB a.2.2.1 0 1099511627776&&(inB a.2.2.2.1 0 1099511627776&&inB a.2.2.2.2.1 0 2147483647))))
theorem Zmd (s:ByteArray):ZaF s (ByteArray.mk #[])=(s.size ==0):=by
  unfold ZaF
  rw [ByteArray.toList_eq,ByteArray.toList_eq]
  obtain ⟨⟨l⟩⟩:=s
  show (l ==[])=(l.length ==0)
  cases l<;>rfl
theorem ZtG (s:ByteArray):decide ((s.size:Int)≤64)=decide (s.size≤64):=decide_eq_decide.2 (by omega)
abbrev rqC (r:Rq):List Value:=[.int .i64 r.1,.int .u8 r.2.1,.int .i64 r.2.2.1,.int .i64 r.2.2.2.1,.string r.2.2.2.2.1,.int .i64 r.2.2.2.2.2.1]
abbrev anC (a:An):List Value:=[.int .i64 a.1,.int .u8 a.2.1,.int .i64 a.2.2.1,.int .i64 a.2.2.2.1,.int .i64 a.2.2.2.2.1]
theorem Zfl {r:Rq} (hs:r.2.2.2.2.1.size<9223372036854775808) {K:Bool→Zb→Prop} {h:Zb} (hk:∀ h',Ext h h'→K (XA r) h'):YY r K h:=by
  unfold YY ZfD
  obtain ⟨id,want,flow,count,text,token,u⟩:=r
  dsimp only at hs ⊢
  refine Za1 fun h1 hb hext _=>?_
  replace hk:=hk h1 hext
  refine ZbA (fun s h'=>h'=h1∧s.1=(ZmK (id,want,flow,count,text,token,u)&&token ==0)) ?_ ?_
  ·rintro ⟨asks,u2⟩ h' ⟨rfl,ha⟩
   dsimp only at ha ⊢
   refine ZbA (fun s h''=>h''=h'∧s.1=Zod (id,want,flow,count,text,token,u)) ?_ ?_
   ·rintro ⟨bare,u2⟩ h'' ⟨rfl,hbare⟩
    dsimp only at hbare ⊢
    refine YS hb rfl (ZcT ?_)
    unfold XA at hk
    dsimp only at hk
    rw [← ha,← hbare] at hk
    refine ⟨fun e=>?_,fun e=>YS hb rfl ?_⟩
    ·have e':inB id 0 2147483647=false:=by simpa using e
     rw [e'] at hk;exact hk
    have e':inB id 0 2147483647=true:=by simpa using e
    rw [e',Bool.true_and] at hk
    refine ZbA (fun s h'=>h'=h''∧s.1=(want ==1||want ==3)) ?_ ?_
    ·rintro ⟨s32,u2⟩ h' ⟨rfl,hw⟩
     dsimp only at hw ⊢
     rw [← hw] at hk
     refine ⟨fun e=>?_,fun e=>Zx ?_⟩
     ·rw [e,cond_true] at hk
      refine ⟨fun e=>Znk hb rfl (Zx ?_),fun e=>?_⟩
      ·rw [Zmd]
       rw [e,Bool.true_and] at hk
       exact hk
      ·rw [e] at hk;exact hk
     rw [e,cond_false] at hk
     refine ⟨fun e=>?_,fun e=>Zx ?_⟩
     ·rw [e,cond_true] at hk
      refine ⟨fun e=>Znk hb rfl (Zx ?_),fun e=>?_⟩
      ·rw [ZtG]
       rw [e,Bool.true_and] at hk
       exact hk
      ·rw [e] at hk;exact hk
     rw [e,cond_false] at hk
     refine ⟨fun e=>?_,fun e=>Zx ?_⟩
     ·rw [e,cond_true] at hk
      refine ⟨fun e=>YS hb rfl (ZcT ?_),fun e=>?_⟩
      ·rw [e,Bool.true_and] at hk
       refine ⟨fun e=>Znk hb rfl (Zx ?_),fun e=>?_⟩
       ·rw [Zmd]
        rw [e,Bool.true_and] at hk
        exact hk
       ·rw [e] at hk;exact hk
      ·rw [e] at hk;exact hk
     rw [e,cond_false] at hk
     refine ⟨fun e=>?_,fun e=>?_⟩
     ·rw [e,cond_true] at hk
      refine ⟨fun e=>YS hb rfl ?_,fun e=>?_⟩
      ·rw [e,Bool.true_and] at hk
       refine ⟨fun e=>Znk hb rfl (ZnS hs (Zx ?_)),fun e=>?_⟩
       ·rw [e,Bool.true_and] at hk
        exact hk
       ·rw [e] at hk;exact hk
      ·rw [e] at hk;exact hk
     rw [e,cond_false] at hk
     exact hk
    ·refine Zx ⟨fun e=>⟨rfl,?_⟩,fun e=>Zx ⟨rfl,?_⟩⟩
     ·rw [e];rfl
     ·rw [e];rfl
   ·refine YS hb rfl ⟨fun e=>YS hb rfl (Zx ⟨rfl,?_⟩),fun e=>⟨rfl,?_⟩⟩
    ·unfold Zod;dsimp only;rw [e,Bool.true_and]
    ·unfold Zod;dsimp only;rw [e];rfl
  ·refine YS hb rfl (ZcT ⟨fun e=>YS hb rfl (ZcT ⟨fun e2=>YS hb rfl (Zx ⟨rfl,?_⟩),fun e2=>⟨rfl,?_⟩⟩),fun e=>⟨rfl,?_⟩⟩)
   ·unfold ZmK;dsimp only;rw [e,e2];rfl
   ·unfold ZmK;dsimp only;rw [e,e2];rfl
   ·unfold ZmK;dsimp only;rw [e];rfl
theorem ZjM {a:An} {K:Bool→Zb→Prop} {h:Zb} (hk:∀ h',Ext h h'→K (ZeG a) h'):Xd a K h:=by
  unfold Xd Zda
  obtain ⟨id,want,flow,count,token,u⟩:=a
  dsimp only
  refine Za1 fun h1 hb hext _=>?_
  replace hk:=hk h1 hext
  unfold ZeG at hk
  dsimp only at hk
  refine YS hb rfl (ZcT ⟨fun e=>?_,fun e=>(by rw [e] at hk;exact hk)⟩)
  rw [e,Bool.true_and] at hk
  refine YS hb rfl ⟨fun e=>?_,fun e=>(by rw [e] at hk;exact hk)⟩
  rw [e,Bool.true_and] at hk
  refine YS hb rfl ⟨fun e=>?_,fun e=>(by rw [e] at hk;exact hk)⟩
  rw [e,Bool.true_and] at hk
  refine YS hb rfl (ZcT ⟨fun e=>?_,fun e=>(by rw [e] at hk;exact hk)⟩)
  rw [e,Bool.true_and] at hk
  refine YS hb rfl (ZcT ⟨fun e=>?_,fun e=>(by rw [e] at hk;exact hk)⟩)
  rw [e,Bool.true_and] at hk
  exact YS hb rfl (ZcT (Zx hk))
def be (l:List UInt8):Nat:=l.foldl (fun n c=>n*256+c.toNat) 0
theorem ZsP (l:List UInt8) (c:UInt8):be (l++[c])=be l*256+c.toNat:=by unfold be;rw [List.foldl_append];rfl
theorem ZzM:∀ (n:Nat) (l:List UInt8),l.length=n→be l<256 ^ n
  | 0,l,h=>by
    have:l=[]:=List.eq_nil_of_length_eq_zero h
    subst this
    simp [be]
  | n+1,l,h=>by
    have hne:l≠[]:=by intro e;subst e;simp at h
    have e:=List.dropLast_concat_getLast hne
    rw [← e,ZsP,Nat.pow_succ]
    have h1:=ZzM n l.dropLast (by simp [h])
    have:=(l.getLast hne).toNat_lt
    omega
theorem ZzL {l:List UInt8} (h:l.length≤7):be l<72057594037927936:=by
  have h1:=ZzM _ l rfl
  have:256 ^ l.length≤256 ^ 7:=Nat.pow_le_pow_right (by omega) h
  omega
def Zvo (l:List UInt8):Int:=IntKind.wrap .i64 (be l:Int)
theorem ZtW (N c:Nat) (hN:N<72057594037927936) (hc:c<256):BitVec.toNat (BitVec.ofNat 64 (N*256) ||| BitVec.ofNat 64 c)=N*256+c:=by
  rw [BitVec.toNat_or]
  simp only [BitVec.toNat_ofNat]
  rw [Nat.mod_eq_of_lt (by omega),Nat.mod_eq_of_lt (by omega),Nat.mul_comm N 256,show (256:Nat)=2 ^ 8 from rfl,← Nat.two_pow_add_eq_or_of_lt (by omega)]
theorem Zzb (N c:Nat) (hN:N<72057594037927936) (hc:c<256):orV .u64 (Zvi .u64 (N:Int) 8) (IntKind.wrap .u64 (c:Int))=((N*256+c:Nat):Int):=by
  unfold orV Zvi
  have h8:min (8:Int).toNat IntKind.u64.bits=8:=by decide
  have hb:IntKind.u64.bits=64:=rfl
  rw [h8,hb,Zno (n:=(c:Int)) (by omega) (by omega)]
  have e:(N:Int)*2 ^ 8=((N*256:Nat):Int):=by omega
  rw [e,Zno (n:=((N*256:Nat):Int)) (by omega) (by omega)]
  simp only [BitVec.ofInt_natCast]
  rw [ZtW N c hN hc]
  exact Zno (by omega) (by omega)
structure RdI (T:TypeId) (h:Zb) (b:Nat) (s:Sl) (lb:List UInt8) (t:Nat):Prop where
  cells:∃ (at_:Nat) (short:Bool),h[b]?=some (.cells #[slV s,.int .i64 (at_:Int),.bool short] T (0,0))∧at_≤lb.length∧(short=true→lb.length<t)∧(short=false→at_=t)
  bytes:Bytes h s lb
  apart:∀ k o,s.ptr=some ⟨k,o,none⟩→lb.map bv≠[]→k≠b
theorem RdI.lt {T:TypeId} {h:Zb} {b:Nat} {s:Sl} {lb:List UInt8} {t:Nat} (hr:RdI T h b s lb t):b<h.size:=by
  obtain ⟨_,_,hb,_⟩:=hr.cells
  rcases Nat.lt_or_ge b h.size with hl | hl
  ·exact hl
  ·rw [Array.getElem?_eq_none hl] at hb;cases hb
theorem RdI.ext {T:TypeId} {h h':Zb} {b:Nat} {s:Sl} {lb:List UInt8} {t:Nat} (hr:RdI T h b s lb t) (he:Ext h h'):RdI T h' b s lb t:=by
  have hlt:=hr.lt
  obtain ⟨a,sh,hb,h1⟩:=hr.cells
  exact ⟨⟨a,sh,by rw [he.old b hlt];exact hb,h1⟩,hr.bytes.ext he,hr.apart⟩
theorem RdI.upd {T:TypeId} {h h':Zb} {b:Nat} {s:Sl} {lb:List UInt8} {t:Nat} {U:Nat→Prop} (hr:RdI T h b s lb t) (he:Upd U h h') (hb:¬ U b) (hs:∀ k o,s.ptr=some ⟨k,o,none⟩→lb.map bv≠[]→k<h.size→¬ U k):RdI T h' b s lb t:=by
  have hlt:=hr.lt
  obtain ⟨a,sh,hc,h1⟩:=hr.cells
  exact ⟨⟨a,sh,by rw [he.old b hlt hb];exact hc,h1⟩,hr.bytes.congr fun k o hp hne hl=>he.old k hl (hs k o hp hne hl),hr.apart⟩
theorem Zmb {T:TypeId} {h:Zb} {b:Nat} {s:Sl} {lb:List UInt8} {t n:Nat} {K:Sl→Zb→Prop} (hr:RdI T h b s lb t) (hn:n≤255) (ht:t≤1000)
    (hk:∀ s' h',RdI T h' b s lb (t+n)→Upd (· = b) h h'→h'.size=h.size→(t+n≤lb.length→Bytes h' s' ((lb.drop t).take n))→(lb.length<t+n→s'=⟨none,0,0⟩)→K s' h') :
    Xc (some ⟨b,0,none⟩) (n:Int) K h:=by
  unfold Xc Zc9
  obtain ⟨⟨at_,short,hb,hal,hsh1,hsh2⟩,hs,hap⟩:=hr
  have hlen:=hs.length
  have hcap:=hs.cap
  have hbig:=hs.big
  have over:∀ h',h'[b]?=some (.cells #[slV s,.int .i64 (at_:Int),.bool true] T (0,0))→Upd (· = b) h h'→h'.size=h.size→lb.length<t+n→K ⟨none,0,0⟩ h':=fun h' hb' hu hsz hlt =>
    hk _ h' ⟨⟨at_,true,hb',hal,fun _=>hlt,fun h=>(by cases h)⟩,hs.congr fun k o hp hne hl=>hu.old k hl (hap k o hp hne),hap⟩ hu hsz (fun h=>by omega) (fun _=>rfl)
  refine ZbA (fun _ h'=>h'[b]?=some (.cells #[slV s,.int .i64 (t:Int),.bool false] T (0,0))∧Upd (· = b) h h'∧h'.size=h.size∧t+n≤lb.length) ?_ ?_
  ·rintro u h' ⟨hb',hu,hsz,hle⟩
   have hs':Bytes h' s lb:=hs.congr fun k o hp hne hl=>hu.old k hl (hap k o hp hne)
   refine Zh (YS hb' rfl (Zh (Zig hb' (by simp) rfl fun h2 hb2 hu2 hsz2=>?_)))
   have hw:IntKind.wrap .i64 ((t:Int)+(n:Int))=((t+n:Nat):Int):=by rw [ZR (by omega) (by omega)];omega
   rw [hw] at hb2
   have hs2:Bytes h2 s lb:=hs'.congr fun k o hp hne hl=>hu2.old k hl (hap k o hp hne)
   refine Zh (Zjk hb2 rfl (Zh (YS hb2 rfl (Zh (YS hb2 rfl ?_)))))
   have hw2:IntKind.wrap .i64 (((t+n:Nat):Int) - (n:Int))=(t:Int):=by rw [ZR (by omega) (by omega)];omega
   rw [hw2]
   refine Row.slc hs2 (a:=t) (b:=t+n) (m:=s.cap) rfl rfl rfl (by omega) (by omega) (by omega) (Nat.le_refl _) fun s' hs3 _ _ _=>?_
   refine hk s' h2 ⟨⟨t+n,false,hb2,hle,fun h=>(by cases h),fun _=>rfl⟩,hs2,hap⟩ (hu.trans hu2) (by omega) (fun _=>?_) (fun h=>by omega)
   have e:((lb.map bv).drop t).take (t+n - t)=((lb.drop t).take n).map bv:=by rw [List.map_take,List.map_drop];congr 1;omega
   rw [e] at hs3
   exact hs3
  ·refine Zh (Znl hb rfl ⟨fun e=>?_,fun e=>?_⟩)
   ·have hlt:=hsh1 e
    subst e
    refine Zh (Zig hb (by simp) rfl fun h2 hb2 hu2 hsz2=>Zh (Znl hb2 rfl (ZF ?_)))
    exact over h2 hb2 hu2 hsz2 (by omega)
   ·have hat:=hsh2 e
    subst hat e
    refine Zh (Zh (Zjk hb rfl (YS hb rfl (Zh (Zig hb (by simp) rfl fun h2 hb2 hu2 hsz2=>Zh (Znl hb2 rfl ?_))))))
    rw [ZR (n:=(s.len:Int) - (at_:Int)) (by omega) (by omega)] at hb2 ⊢
    refine Zj (fun h1=>?_) (fun h1=>?_)
    ·rw [decide_eq_true h1] at hb2
     exact over h2 hb2 hu2 hsz2 (by omega)
    ·rw [decide_eq_false h1] at hb2
     exact ⟨hb2,hu2,hsz2,by omega⟩
def Zd1 (lb:List UInt8) (t n:Nat):Int:=if t+n≤lb.length then Zvo ((lb.drop t).take n) else 0
theorem Zjd {T:TypeId} {h:Zb} {b:Nat} {s:Sl} {lb:List UInt8} {t n:Nat} {K:Int→Zb→Prop} (hr:RdI T h b s lb t) (hn:n≤8) (ht:t≤1000)
    (hk:∀ h',RdI T h' b s lb (t+n)→Upd (· = b) h h'→h'.size=h.size→K (Zd1 lb t n) h') :
    Yo (some ⟨b,0,none⟩) (n:Int) K h:=by
  unfold Yo Zb2
  refine Za (Za ?_)
  refine Zmb hr (by omega) ht fun s' h' hr' hu hsz hyes hno=>?_
  have key:∃ l:List UInt8,Bytes h' s' l∧l.length≤8∧Zd1 lb t n=Zvo l:=by
    unfold Zd1
    by_cases hc:t+n≤lb.length
    ·rw [if_pos hc]
     exact ⟨_,hyes hc,by simp;omega,rfl⟩
    ·rw [if_neg hc,hno (by omega)]
     exact ⟨[],Row.nil _ 1,by simp,rfl⟩
  obtain ⟨l,hl,hl8,hv⟩:=key
  have hll:=hl.length
  have:=hk h' hr' hu hsz
  rw [hv] at this
  refine Yc (fun p h2=>h2=h'∧∃ k:Nat,k≤l.length∧p.2.1=(k:Int)∧p.1=(be (l.take k):Int)) (fun p _=>l.length - p.2.1.toNat) ⟨rfl,0,by omega,rfl,rfl⟩ ?_
  rintro ⟨m,i,u⟩ h2 ⟨rfl,k,hk8,hi,hm⟩
  dsimp only at hi hm
  subst hi hm
  dsimp only
  refine Zj (fun hlt=>?_) (fun hge=>Za ?_)
  ·have hx:l[k]?=some l[k]:=List.getElem?_eq_getElem (by omega)
   refine Bytes.idx hl rfl hx (Za ⟨by omega,Za ?_⟩)
   have h7:=ZzL (l:=l.take k) (by simp;omega)
   rw [Zzb _ _ h7 (l[k]).toNat_lt,ZR (n:=(k:Int)+1) (by omega) (by omega)]
   refine ⟨⟨rfl,k+1,by omega,by omega,?_⟩,by omega⟩
   rw [List.take_succ_eq_append_getElem (by omega),ZsP]
  ·have:l.take k=l:=List.take_of_length_le (by omega)
   rw [this]
   exact ‹K (Zvo l) h2›
theorem ZkE {T:TypeId} {h:Zb} {b:Nat} {s:Sl} {lb:List UInt8} {t:Nat} {right:Bool} {K:Int→Int→Zb→Prop} (hr:RdI T h b s lb t)
    (hk:K (if lb.length<t then 6 else if t<lb.length then 6 else if right then 0 else 6) (if lb.length<t then (lb.length:Int) else if t<lb.length then (t:Int) else 0) h) :
    Y1 (some ⟨b,0,none⟩) right K h:=by
  unfold Y1 Zcu
  obtain ⟨⟨at_,short,hb,hal,hsh1,hsh2⟩,hs,hap⟩:=hr
  have hlen:=hs.length
  refine Za (Za (Zh (Znl hb rfl (Zx ⟨fun e=>?_,fun e=>?_⟩))))
  ·have hlt:=hsh1 e
   rw [if_pos hlt,if_pos hlt,← hlen] at hk
   exact Zh (Zjk hb rfl (Za (Za hk)))
  ·have hat:=hsh2 e
   subst hat
   have h0:¬ lb.length<at_:=by omega
   rw [if_neg h0,if_neg h0] at hk
   refine Zh (YS hb rfl (Zh (Zjk hb rfl (Zx (Zj (fun h1=>?_) (fun h1=>Zx ?_))))))
   ·have h2:at_<lb.length:=by omega
    rw [if_pos h2,if_pos h2] at hk
    exact Zh (YS hb rfl (Za (Za hk)))
   ·have h2:¬ at_<lb.length:=by omega
    rw [if_neg h2,if_neg h2] at hk
    cases right with
    | true=>exact Zl (Za (Za hk))
    | false=>exact ZF (Za (Za hk))
def tl (lb:List UInt8):Nat:=if 34≤lb.length then (lb.getD 33 0).toNat else 0
theorem Zy0 (lb:List UInt8):tl lb≤255:=by
  unfold tl
  split
  ·have:=(lb.getD 33 0).toNat_lt;omega
  ·omega
theorem ZwJ (lb:List UInt8):Zd1 lb 33 1=(tl lb:Int):=by
  unfold Zd1 tl
  by_cases h:33+1≤lb.length
  ·rw [if_pos h,if_pos (by omega)]
   have e:(lb.drop 33).take 1=[lb.getD 33 0]:=by
     rw [List.take_one,List.head?_drop,List.getD_eq_getElem?_getD,List.getElem?_eq_getElem (by omega)]
     rfl
   rw [e]
   have:=(lb.getD 33 0).toNat_lt
   have e2:be [lb.getD 33 0]=(lb.getD 33 0).toNat:=by unfold be;simp
   unfold Zvo
   rw [e2]
   exact ZR (by omega) (by omega)
  ·rw [if_neg h,if_neg (by omega)]
   rfl
def ZjX (lb:List UInt8):ByteArray:=if 34+tl lb≤lb.length then ⟨((lb.drop 34).take (tl lb)).toArray⟩ else ByteArray.empty
theorem ZtA (lb:List UInt8):(ZjX lb).size≤255:=by
  have:=Zy0 lb
  unfold ZjX
  split
  ·have e:(ByteArray.mk ((lb.drop 34).take (tl lb)).toArray).size=((lb.drop 34).take (tl lb)).length:=rfl
   rw [e,List.length_take]
   omega
  ·show (0:Nat)≤255
   omega
def Zh3 (lb:List UInt8):Rq:=(Zd1 lb 1 8,IntKind.wrap .u8 (Zd1 lb 0 1),Zd1 lb 9 8,Zd1 lb 17 8,ZjX lb,Zd1 lb 25 8,())
def zR:Rq:=(0,0,0,0,ByteArray.mk #[],0,())
def Zxy (lb:List UInt8):Int × Int:=(if lb.length<34+tl lb then 6 else if 34+tl lb<lb.length then 6 else if XA (Zh3 lb) then 0 else 6,
  if lb.length<34+tl lb then (lb.length:Int) else if 34+tl lb<lb.length then ((34+tl lb:Nat):Int) else 0)
def ZdH (lb:List UInt8):Rq × Int × Int:=if (Zxy lb).1≠0 then (zR,(Zxy lb).1,(Zxy lb).2) else (Zh3 lb,0,0)
def Zh4 (lb:List UInt8):An:=(Zd1 lb 1 8,IntKind.wrap .u8 (Zd1 lb 0 1),Zd1 lb 9 8,Zd1 lb 17 8,Zd1 lb 25 8,())
def zA:An:=(0,0,0,0,0,())
def Zxz (lb:List UInt8):Int × Int:=(if lb.length<33 then 6 else if 33<lb.length then 6 else if ZeG (Zh4 lb) then 0 else 6,
  if lb.length<33 then (lb.length:Int) else if 33<lb.length then ((33:Nat):Int) else 0)
def ZbP (lb:List UInt8):An × Int × Int:=if (Zxz lb).1≠0 then (zA,(Zxz lb).1,(Zxz lb).2) else (Zh4 lb,0,0)
theorem Zll {T:TypeId} {h:Zb} {b:Nat} {s:Sl} {lb:List UInt8} {t:Nat} {K:Int→Zb→Prop} (hr:RdI T h b s lb t) (ht:t≤1000)
    (hk:∀ h',RdI T h' b s lb (t+1)→Upd (· = b) h h'→h'.size=h.size→K (Zd1 lb t 1) h'):Yo (some ⟨b,0,none⟩) 1 K h :=
  Zjd (n:=1) hr (by omega) ht hk
theorem ZaG {T:TypeId} {h:Zb} {b:Nat} {s:Sl} {lb:List UInt8} {t:Nat} {K:Int→Zb→Prop} (hr:RdI T h b s lb t) (ht:t≤1000)
    (hk:∀ h',RdI T h' b s lb (t+8)→Upd (· = b) h h'→h'.size=h.size→K (Zd1 lb t 8) h'):Yo (some ⟨b,0,none⟩) 8 K h :=
  Zjd (n:=8) hr (by omega) ht hk
theorem Zix {s:Sl} {lb:List UInt8} {h:Zb} {K:Rq→Int→Int→Zb→Prop} (hb:Bytes h s lb) (hk:∀ h',Ext h h'→K (ZdH lb).1 (ZdH lb).2.1 (ZdH lb).2.2 h'):ZaA s K h:=by
  unfold ZaA Zdb
  have hsb:∀ k o,s.ptr=some ⟨k,o,none⟩→lb.map bv≠[]→k<h.size:=fun k o hp hne=>by
    rcases hb.at_ with h0 | ⟨b,o2,hp2,hh⟩
    ·exact absurd (hb.nil_of h0) hne
    ·rw [hp] at hp2
     cases hp2
     exact Zkz hh hne
  refine Za1 fun h2 c1 e2 z2=>Za (Za (Za1 fun h5 c4 e5 z5=>?_))
  have r0:RdI 254 h5 h2.size s lb 0:=⟨⟨0,false,c4,by omega,(fun h=>by cases h),fun _=>rfl⟩,(hb.ext e2).ext e5,fun k o hp hne=>by have:=hsb k o hp hne;omega⟩
  replace c1:=Xi c1 e5
  have x5:=e2.trans e5
  refine ZbA (fun p h'=>∃ bq,p.1=some ⟨bq,0,none⟩∧h5.size≤bq∧h'[bq]?=some (.cells (rqC (Zd1 lb 1 8,IntKind.wrap .u8 (Zd1 lb 0 1),Zd1 lb 9 8,Zd1 lb 17 8,ByteArray.mk #[],Zd1 lb 25 8,())).toArray 39 (0,0)) ∧
    RdI 254 h' h2.size s lb 33∧Upd (fun k=>k=h2.size∨h5.size≤k) h5 h') ?_ ?_
  ·rintro ⟨q,u⟩ h65 ⟨bq,hq0,hbq,hq,hr,hU⟩
   dsimp only at hq0
   subst hq0
   dsimp only
   have x65:=x5.then hU fun k hk=>by omega
   have c65:h65[h.size]?=_:=(hU.old h.size (by omega) (by omega)).trans c1
   refine Zll hr (by omega) fun h67 r67 u67 z67=>?_
   rw [ZwJ]
   have htl:=Zy0 lb
   refine Zmb r67 htl (by omega) fun t68 h69 r69 u69 z69 hyes hno=>?_
   have text:∀ K':ByteArray→Prop,K' (ZjX lb)→b2s t68 h69 K':=fun K' hK'=>by
     unfold ZjX at hK'
     by_cases hc:34+tl lb≤lb.length
     ·rw [if_pos hc] at hK'
      exact ZsS (hyes hc) hK'
     ·rw [if_neg hc] at hK'
      rw [hno (by omega)]
      exact .inl ⟨rfl,hK'⟩
   have u69':=u67.trans u69
   have hbne:bq≠h2.size:=by omega
   refine text _ (Zh (Zig (Zbn hq u69' hbne) (by simp) rfl fun h72 q72 u72 z72=>?_))
   replace q72:h72[bq]?=some (.cells (rqC (Zh3 lb)).toArray 39 (0,0)):=q72
   have c72:=Zbn (Zbn c65 u69' (by omega)) u72 (by omega)
   have x72:=(x65.then u69' fun k hk=>by omega).then u72 fun k hk=>by omega
   have r72:=r69.upd u72 (by omega) fun k o hp hne _=>by have:=hsb k o hp hne;omega
   refine Zh (YS q72 rfl (YS q72 rfl (YS q72 rfl (YS q72 rfl (Znk q72 rfl (YS q72 rfl ?_))))))
   have htx:=ZtA lb
   refine Zfl (r:=Zh3 lb) (by show (ZjX lb).size<_;omega) fun h82 e82=>?_
   have q82:=Xi q72 e82
   have c82:=Xi c72 e82
   have x82:=x72.trans e82
   refine ZkE (r72.ext e82) (Za (Za ?_))
   change Zw ((Zxy lb).1 !=0) _ _
   refine ⟨fun e=>?_,fun e=>?_⟩
   ·refine ZfY c82 rfl rfl fun h86 c86 u86 _=>Za (Za ?_)
    refine YS c86 rfl (YS c86 rfl (YS c86 rfl (YS c86 rfl (Znk c86 rfl (YS c86 rfl ?_)))))
    have:=hk h86 (x82.then u86 fun k hk=>by omega)
    unfold ZdH at this
    rw [if_pos (by simpa using e)] at this
    exact this
   ·refine Zh (YS q82 rfl (YS q82 rfl (YS q82 rfl (YS q82 rfl (Znk q82 rfl (YS q82 rfl ?_))))))
    refine ZfY c82 rfl rfl fun h86 c86 u86 _=>Za (Za ?_)
    refine YS c86 rfl (YS c86 rfl (YS c86 rfl (YS c86 rfl (Znk c86 rfl (YS c86 rfl ?_)))))
    have:=hk h86 (x82.then u86 fun k hk=>by omega)
    unfold ZdH at this
    rw [if_neg (by simpa using e)] at this
    exact this
  ·have fin:∀ (bq:Nat) (cs:Array Value) (h':Zb),(h5.size≤bq)→cs.size=6→h'[bq]?=some (.cells cs 39 (0,0))→RdI 254 h' h2.size s lb 33→Upd (· = h2.size) h5 h' →
       sts h' bq 0 [.int .i64 (Zd1 lb 1 8),.int .u8 (IntKind.wrap .u8 (Zd1 lb 0 1)),.int .i64 (Zd1 lb 9 8),.int .i64 (Zd1 lb 17 8),.string (ByteArray.mk #[]),.int .i64 (Zd1 lb 25 8)] fun h'' =>
         ∃ bq',(some ⟨bq,0,none⟩:Option Addr)=some ⟨bq',0,none⟩∧h5.size≤bq'∧h''[bq']?=some (.cells (rqC (Zd1 lb 1 8,IntKind.wrap .u8 (Zd1 lb 0 1),Zd1 lb 9 8,Zd1 lb 17 8,ByteArray.mk #[],Zd1 lb 25 8,())).toArray 39 (0,0)) ∧
           RdI 254 h'' h2.size s lb 33∧Upd (fun k=>k=h2.size∨h5.size≤k) h5 h'':=fun bq cs h' h1 hcs h2' hr hu =>
     ZfY h2' hcs rfl fun h'' c'' u'' _=>⟨bq,rfl,h1,c'',hr.upd u'' (by omega) (fun k o hp hne _=>by have:=hsb k o hp hne;omega),(hu.mono fun k _ hk=> .inl hk).trans (u''.mono fun k _ hk=> .inr (by omega))⟩
   have u0:Upd (· = h2.size) h5 h5:=Upd.refl _ _
   refine ⟨Zll r0 (by omega) fun g1 r1 w1 y1=>?_,Za1 fun a0 q0 e0 z0=>?_⟩
   ·have u1:=u0.trans w1
    refine ⟨ZaG r1 (by omega) fun g2 r2 w2 y2=>?_,Za1 fun a0 q0 e0 z0=>?_⟩
    ·have u2:=u1.trans w2
     refine ⟨ZaG r2 (by omega) fun g3 r3 w3 y3=>?_,Za1 fun a0 q0 e0 z0=>?_⟩
     ·have u3:=u2.trans w3
      refine ⟨ZaG r3 (by omega) fun g4 r4 w4 y4=>?_,Za1 fun a0 q0 e0 z0=>?_⟩
      ·have u4:=u3.trans w4
       refine ⟨ZaG r4 (by omega) fun g5 r5 w5 y5=>?_,Za1 fun a0 q0 e0 z0=>?_⟩
       ·have u5:=u4.trans w5
        refine Za1 fun a0 q0 e0 z0=>?_
        exact fin _ _ _ (by omega) rfl q0 (r5.ext e0) (u5.trans (e0.upd _))
       ·have x4:=r4.ext e0
        have t4:=u4.trans (e0.upd _)
        refine ZaG x4 (by omega) fun a5 x5 w5 y5=>?_
        have t5:=t4.trans w5
        replace q0:=Zbn q0 w5 (by omega)
        exact fin _ _ _ (by omega) rfl q0 x5 t5
      ·have x3:=r3.ext e0
       have t3:=u3.trans (e0.upd _)
       refine ZaG x3 (by omega) fun a4 x4 w4 y4=>?_
       have t4:=t3.trans w4
       replace q0:=Zbn q0 w4 (by omega)
       refine ZaG x4 (by omega) fun a5 x5 w5 y5=>?_
       have t5:=t4.trans w5
       replace q0:=Zbn q0 w5 (by omega)
       exact fin _ _ _ (by omega) rfl q0 x5 t5
     ·have x2:=r2.ext e0
      have t2:=u2.trans (e0.upd _)
      refine ZaG x2 (by omega) fun a3 x3 w3 y3=>?_
      have t3:=t2.trans w3
      replace q0:=Zbn q0 w3 (by omega)
      refine ZaG x3 (by omega) fun a4 x4 w4 y4=>?_
      have t4:=t3.trans w4
      replace q0:=Zbn q0 w4 (by omega)
      refine ZaG x4 (by omega) fun a5 x5 w5 y5=>?_
      have t5:=t4.trans w5
      replace q0:=Zbn q0 w5 (by omega)
      exact fin _ _ _ (by omega) rfl q0 x5 t5
    ·have x1:=r1.ext e0
     have t1:=u1.trans (e0.upd _)
     refine ZaG x1 (by omega) fun a2 x2 w2 y2=>?_
     have t2:=t1.trans w2
     replace q0:=Zbn q0 w2 (by omega)
     refine ZaG x2 (by omega) fun a3 x3 w3 y3=>?_
     have t3:=t2.trans w3
     replace q0:=Zbn q0 w3 (by omega)
     refine ZaG x3 (by omega) fun a4 x4 w4 y4=>?_
     have t4:=t3.trans w4
     replace q0:=Zbn q0 w4 (by omega)
     refine ZaG x4 (by omega) fun a5 x5 w5 y5=>?_
     have t5:=t4.trans w5
     replace q0:=Zbn q0 w5 (by omega)
     exact fin _ _ _ (by omega) rfl q0 x5 t5
   ·have x0:=r0.ext e0
    have t0:=u0.trans (e0.upd _)
    refine Zll x0 (by omega) fun a1 x1 w1 y1=>?_
    have t1:=t0.trans w1
    replace q0:=Zbn q0 w1 (by omega)
    refine ZaG x1 (by omega) fun a2 x2 w2 y2=>?_
    have t2:=t1.trans w2
    replace q0:=Zbn q0 w2 (by omega)
    refine ZaG x2 (by omega) fun a3 x3 w3 y3=>?_
    have t3:=t2.trans w3
    replace q0:=Zbn q0 w3 (by omega)
    refine ZaG x3 (by omega) fun a4 x4 w4 y4=>?_
    have t4:=t3.trans w4
    replace q0:=Zbn q0 w4 (by omega)
    refine ZaG x4 (by omega) fun a5 x5 w5 y5=>?_
    have t5:=t4.trans w5
    replace q0:=Zbn q0 w5 (by omega)
    exact fin _ _ _ (by omega) rfl q0 x5 t5
theorem ZjN {s:Sl} {lb:List UInt8} {h:Zb} {K:An→Int→Int→Zb→Prop} (hb:Bytes h s lb) (hk:∀ h',Ext h h'→K (ZbP lb).1 (ZbP lb).2.1 (ZbP lb).2.2 h'):ZaQ s K h:=by
  unfold ZaQ ZdA
  have hsb:∀ k o,s.ptr=some ⟨k,o,none⟩→lb.map bv≠[]→k<h.size:=fun k o hp hne=>by
    rcases hb.at_ with h0 | ⟨b,o2,hp2,hh⟩
    ·exact absurd (hb.nil_of h0) hne
    ·rw [hp] at hp2
     cases hp2
     exact Zkz hh hne
  refine Za1 fun h2 c1 e2 z2=>Za (Za (Za1 fun h5 c4 e5 z5=>?_))
  have r0:RdI 252 h5 h2.size s lb 0:=⟨⟨0,false,c4,by omega,(fun h=>by cases h),fun _=>rfl⟩,(hb.ext e2).ext e5,fun k o hp hne=>by have:=hsb k o hp hne;omega⟩
  replace c1:=Xi c1 e5
  have x5:=e2.trans e5
  refine Zll r0 (by omega) fun g1 r1 w1 y1=>?_
  refine ZaG r1 (by omega) fun g2 r2 w2 y2=>?_
  refine ZaG r2 (by omega) fun g3 r3 w3 y3=>?_
  refine ZaG r3 (by omega) fun g4 r4 w4 y4=>?_
  refine ZaG r4 (by omega) fun g5 r5 w5 y5=>?_
  have U5:=(((w1.trans w2).trans w3).trans w4).trans w5
  have c5:=Zbn c1 U5 (by omega)
  have xg5:=x5.then U5 fun k hk=>by omega
  refine Za1 fun h17 q17 e17 z17=>?_
  refine ZfY q17 rfl rfl fun h18 q18 u18 z18=>?_
  have c18:=Zbn (Xi c5 e17) u18 (by omega)
  have x18:=(xg5.trans e17).then u18 fun k hk=>by omega
  have r18:=(r5.ext e17).upd u18 (by omega) fun k o hp hne _=>by have:=hsb k o hp hne;omega
  replace q18:h18[g5.size]?=some (.cells (anC (Zh4 lb)).toArray 57 (0,0)):=q18
  refine YS q18 rfl (YS q18 rfl (YS q18 rfl (YS q18 rfl (YS q18 rfl ?_))))
  refine ZjM (a:=Zh4 lb) fun h25 e25=>?_
  have q25:=Xi q18 e25
  have c25:=Xi c18 e25
  have x25:=x18.trans e25
  refine ZkE (r18.ext e25) (Za (Za ?_))
  change Zw ((Zxz lb).1 !=0) _ _
  refine ⟨fun e=>?_,fun e=>?_⟩
  ·refine ZfY c25 rfl rfl fun h86 c86 u86 _=>Za (Za ?_)
   refine YS c86 rfl (YS c86 rfl (YS c86 rfl (YS c86 rfl (YS c86 rfl ?_))))
   have:=hk h86 (x25.then u86 fun k hk=>by omega)
   unfold ZbP at this
   rw [if_pos (by simpa using e)] at this
   exact this
  ·refine YS q25 rfl (YS q25 rfl (YS q25 rfl (YS q25 rfl (YS q25 rfl ?_))))
   refine ZfY c25 rfl rfl fun h86 c86 u86 _=>Za (Za ?_)
   refine YS c86 rfl (YS c86 rfl (YS c86 rfl (YS c86 rfl (YS c86 rfl ?_))))
   have:=hk h86 (x25.then u86 fun k hk=>by omega)
   unfold ZbP at this
   rw [if_neg (by simpa using e)] at this
   exact this
theorem ZhB (n:Nat):Value.int .u8 (IntKind.wrap .u8 (n:Int))=bv (UInt8.ofNat n):=by
  unfold bv
  rw [Zl7]
  simp
theorem Zfa (l:List UInt8):(l.map bv).all Zv=true:=by
  simp [bv,Zv]
theorem Zk6 {h:Zb} {b o:Nat} {v:Value} {K:Zb→Prop} {c:Array Value} {e:TypeId} (hb:h[b]?=some (.cells c e (0,0))) (ho:o<c.size) (hv:Zv v=true) (hk:K (h.put b o v)):st h b o v K:=by
  refine ⟨⟨c[o],by rw [Zn hb];simp [ho]⟩,?_,hv,hk⟩
  unfold Zb.froz;rw [hb];simp
theorem ZrW {lb:List UInt8} {x:UInt8} (h:lb[0]?=some x):IntKind.wrap .u8 (Zd1 lb 0 1)=(x.toNat:Int):=by
  cases lb with
  | nil=>simp at h
  | cons y l =>
    simp at h
    subst h
    have e:Zd1 (y::l) 0 1=Zvo [y]:=by
      unfold Zd1
      rw [if_pos (by simp)]
      rfl
    have:=y.toNat_lt
    have e2:be [y]=y.toNat:=by unfold be;simp
    rw [e]
    unfold Zvo
    rw [e2,ZR (by omega) (by omega)]
    exact ZEj (by omega) (by omega)
def ZeN (n:Int) (s:Nat):UInt8:=UInt8.ofNat ((n / 2 ^ s) % 256).toNat
def XS (n:Int):List UInt8:=[ZeN n 56,ZeN n 48,ZeN n 40,ZeN n 32,ZeN n 24,ZeN n 16,ZeN n 8,ZeN n 0]
theorem ZsK (n:Int) (s:Nat) (hs:s<64):Value.int .u8 (IntKind.wrap .u8 (ZlM .i64 n (s:Int)))=bv (ZeN n s):=by
  unfold ZlM bv ZeN
  have hb:IntKind.i64.bits=64:=rfl
  rw [hb]
  have:min (s:Int).toNat 64=s:=by omega
  rw [this,Int.fdiv_eq_ediv_of_nonneg _ (by have:(0:Int)<2 ^ s:=Int.pow_pos (by decide);omega),Zl7]
  generalize n / 2 ^ s=x
  have h1:=Int.emod_nonneg x (show (256:Int)≠0 by decide)
  have h2:=Int.emod_lt_of_pos x (show (0:Int)<256 by decide)
  have e:(UInt8.ofNat (x % 256).toNat).toNat=(x % 256).toNat % 256:=by simp
  rw [e]
  congr 1
  omega
structure WrI (h0:Zb) (w base:Nat) (s0:Sl) (h:Zb) (cur:List UInt8):Prop where
  cells:∃ s:Sl,h[w]?=some (.cells #[slV s] 261 (0,0))∧Own h base s 1 (cur.map bv)∧s.blk≠some w∧(s.blk=s0.blk∨∀ k,s.blk=some k→h0.size≤k)
  upd:Upd (fun k=>k=w∨s0.blk=some k) h0 h
theorem WrI.step {h0 h:Zb} {w base:Nat} {s0:Sl} {cur:List UInt8} {v:Value} {y:UInt8} {K:Zb→Prop} (hr:WrI h0 w base s0 h cur) (hv:v=bv y) (hw:w<h0.size) (hbase:base≤h0.size) (hn:cur.length≤1099511627776)
    (hk:∀ h',WrI h0 w base s0 h' (cur++[y])→K h') {shift:Int} (h0s:0≤shift) :
    Zd (some ⟨w,0,none⟩) fun b7 o8=>ZH (0≤shift) <| ldL h b7 o8 fun t9=>newC h [v] 5 fun b10 h11=>ZH (Zi h11 [(b7,o8,Value.slice t9.ptr t9.len t9.cap)]) <|
     rdS ⟨some ⟨b10,0,none⟩,1,1⟩ 1 h11 fun new=>app 5 1 1 [Value.int .u8 0] t9 1 new h11 fun t12 h13=>Zd (some ⟨w,0,none⟩) fun b14 o15=>st h13 b14 o15 (Value.slice t12.ptr t12.len t12.cap) fun h16=>K h16:=by
  subst hv
  obtain ⟨⟨s,hc,ho,hsw,hblk⟩,hu⟩:=hr
  have hz:=hu.size
  have hol:=ho.len
  simp only [List.length_map,Nat.mul_one] at hol
  refine Zh ⟨h0s,Zjk hc rfl (Za1 fun h11 c11 e11 z11=>?_)⟩
  have hc11:=Xi hc e11
  refine ⟨⟨(Zn hc11).trans rfl,trivial⟩,?_⟩
  have hrow:Row h11 ⟨some ⟨h.size,0,none⟩,1,1⟩ 1 [bv y]:=⟨rfl,Nat.le_refl _,(show 1<9223372036854775808 by decide),.inr ⟨h.size,0,rfl,ZaD c11 fun i v hi=>by simpa using hi⟩⟩
  refine hrow.rd ?_
  have ho11:=ho.congr (h':=h11) fun k _ hl _=>e11.old k hl
  refine Own.app ho11 (by simp) rfl rfl (by omega) (by omega) (by omega) fun t12 h13 ho13 hl13 hu13 hblk13=>?_
  have hc13:h13[w]?=some (.cells #[slV s] 261 (0,0)):=by rw [hu13.old w (by omega) hsw];exact hc11
  refine Zh (Zig hc13 (by simp) rfl fun h16 c16 u16 z16=>hk h16 ⟨⟨t12,c16,?_,?_,?_⟩,?_⟩)
  ·rw [List.map_append]
   have hne:t12.blk≠some w:=by
     rcases hblk13 with e | e
     ·rw [e];exact hsw
     ·rw [e];intro he;cases he;omega
   exact ho13.congr fun k hk hl _=>u16.old k hl fun he=>hne (he▸hk)
  ·rcases hblk13 with e | e
   ·rw [e];exact hsw
   ·rw [e];intro he;cases he;omega
  ·rcases hblk13 with e | e
   ·rw [e];exact hblk
   ·right;intro k hk;rw [e] at hk;cases hk;omega
  ·refine Upd.then (Upd.then (hu.trans (e11.upd _)) hu13 fun k hk hks=>?_) u16 fun k hk hkw=> .inl hkw
   rcases hblk with e | e
   ·exact .inr (e▸hks)
   ·have:=e k hks;omega
theorem ZEH (n:Int) {j:Nat} (hj:j<8):(XS n)[j]?=some (ZeN n (56 - 8*j)):=by
  have:j=0∨j=1∨j=2∨j=3∨j=4∨j=5∨j=6∨j=7:=by omega
  rcases this with rfl | rfl | rfl | rfl | rfl | rfl | rfl | rfl<;>rfl
theorem ZEn (n:Int) {j:Nat} (hj:j<8):(XS n).take (j+1)=(XS n).take j++[ZeN n (56 - 8*j)]:=by
  have h:=ZEH n hj
  have hl:j<(XS n).length:=hj
  rw [List.take_succ_eq_append_getElem hl]
  rw [List.getElem?_eq_getElem hl] at h
  rw [Option.some.inj h]
theorem Zij {h:Zb} {w base:Nat} {s0 l:Sl} {pre:List UInt8} {ns:List Int} {K:Zb→Prop} (hr:WrI h w base s0 h pre) (hl:Row h l 1 (ns.map (Value.int .i64))) (hlw:∀ k,l.blk=some k→k≠w∧s0.blk≠some k) (hw:w<h.size) (hbase:base≤h.size)
    (hn:pre.length+8*ns.length≤1099511627776) (hk:∀ h',WrI h w base s0 h' (pre++ns.flatMap XS)→K h'):YE (some ⟨w,0,none⟩) l K h:=by
  unfold YE ZbH
  have hll:=hl.len
  simp only [List.length_map,Nat.mul_one] at hll
  have f8:∀ ms:List Int,(ms.flatMap XS).length=8*ms.length:=by
    intro ms
    induction ms with
    | nil=>rfl
    | cons m ms ih=>rw [List.flatMap_cons,List.length_append,ih,List.length_cons];show 8+_=_;omega
  refine Yc (fun p h'=>∃ k:Nat,p.1=(k:Int)∧k≤ns.length∧WrI h w base s0 h' (pre++(ns.take k).flatMap XS)) (fun p _=>ns.length - p.1.toNat) ⟨0,rfl,Nat.zero_le _,by simpa using hr⟩ ?_
  rintro ⟨i,u⟩ h1 ⟨k,hi,hkl,hw1⟩
  dsimp only at hi
  subst hi
  dsimp only
  refine Zj (fun hlt=>?_) (fun hge=>?_)
  ·have hk1:k<ns.length:=by omega
   have hx:ns[k]?=some ns[k]:=List.getElem?_eq_getElem hk1
   have htk:ns.take (k+1)=ns.take k++[ns[k]]:=List.take_succ_eq_append_getElem hk1
   generalize ns[k]=n at hx htk
   have hl1:Row h1 l 1 (ns.map (Value.int .i64)):=hl.congr fun b o hp _ hb=>hw1.upd.old b hb (by
     have:=hlw b (by simp [Sl.blk,hp])
     rintro (he | he)
     ·exact this.1 he
     ·exact this.2 he)
   refine Row.idx hl1 (n:=k) rfl (v:= .int .i64 n) (by simp [hx]) fun b o _ hc=>⟨n,hc,Za (Za ?_)⟩
   have hlen:(ns.take k).length=k:=by simp;omega
   refine Yc (fun p h'=>∃ j:Nat,p.1=56 - 8*(j:Int)∧j≤8∧WrI h w base s0 h' (pre++(ns.take k).flatMap XS++(XS n).take j)) (fun p _=>(p.1+8).toNat) ⟨0,rfl,by omega,by simpa using hw1⟩ ?_
   rintro ⟨sh,u⟩ h2 ⟨j,hsh,hj8,hw2⟩
   dsimp only at hsh
   subst hsh
   dsimp only
   refine Zj (fun hge=>?_) (fun hlt2=>?_)
   ·have hj:j<8:=by omega
    have e:(56:Int) - 8*(j:Int)=((56 - 8*j:Nat):Int):=by omega
    have hcl:(pre++(ns.take k).flatMap XS++(XS n).take j).length≤1099511627776:=by
      rw [List.length_append,List.length_append,f8,hlen,List.length_take]
      have:(XS n).length=8:=rfl
      omega
    rw [e]
    refine WrI.step hw2 (ZsK n _ (by omega)) hw hbase hcl (fun h' hw'=>Za ?_) (by omega)
    rw [ZR (by omega) (by omega)]
    refine ⟨⟨j+1,by omega,by omega,?_⟩,by omega⟩
    rw [ZEn n hj,← List.append_assoc]
    exact hw'
   ·have:j=8:=by omega
    subst this
    rw [ZR (n:=(k:Int)+1) (by omega) (by omega)]
    refine ⟨⟨k+1,by omega,by omega,?_⟩,by omega⟩
    rw [htk,List.flatMap_append,← List.append_assoc]
    have e:(XS n).take 8=XS n:=rfl
    rw [e] at hw2
    simpa using hw2
  ·have:k=ns.length:=by omega
   subst this
   rw [List.take_of_length_le (Nat.le_refl _)] at hw1
   exact hk h1 hw1
def Ze7 (r:Rq):List UInt8:=[UInt8.ofNat r.2.1.toNat]++[r.1,r.2.2.1,r.2.2.2.1,r.2.2.2.2.2.1].flatMap XS++[UInt8.ofNat r.2.2.2.2.1.size]++r.2.2.2.2.1.data.toList
def Zxs (r:Rq):List UInt8:=if XA r then Ze7 r else []
def ZgA (a:An):List UInt8:=[UInt8.ofNat a.2.1.toNat]++[a.1,a.2.2.1,a.2.2.2.1,a.2.2.2.2.1].flatMap XS
def Ztf (a:An):List UInt8:=if ZeG a then ZgA a else []
theorem ZhQ {r:Rq} (h:XA r=true):1≤r.2.1∧r.2.1≤5:=by
  unfold XA at h
  rw [Bool.and_eq_true] at h
  have h2:=h.2
  by_cases h1:r.2.1=1∨r.2.1=2∨r.2.1=3∨r.2.1=4∨r.2.1=5
  ·omega
  ·rw [not_or,not_or,not_or,not_or] at h1
   simp [h1] at h2
theorem Zem {r:Rq} (h:XA r=true):r.2.2.2.2.1.size≤64:=by
  unfold XA at h
  rw [Bool.and_eq_true] at h
  have h2:=h.2
  clear h
  generalize hc1:(r.2.1 ==1||r.2.1 ==3)=c1 at h2
  cases c1 with
  | true=>simp only [cond_true,Bool.and_eq_true,beq_iff_eq] at h2;omega
  | false =>
    simp only [cond_false] at h2
    generalize hc2:(r.2.1 ==2)=c2 at h2
    cases c2 with
    | true=>simp only [cond_true,Bool.and_eq_true,decide_eq_true_eq] at h2;omega
    | false =>
      simp only [cond_false] at h2
      generalize hc3:(r.2.1 ==4)=c3 at h2
      cases c3 with
      | true=>simp only [cond_true,Bool.and_eq_true,beq_iff_eq] at h2;omega
      | false =>
        simp only [cond_false] at h2
        generalize hc4:(r.2.1 ==5)=c4 at h2
        cases c4 with
        | true=>simp only [cond_true,Bool.and_eq_true] at h2;have h3:=h2.2;unfold Zhk at h3;simp only [Bool.and_eq_true,decide_eq_true_eq] at h3;omega
        | false=>cases h2
theorem Zo0 {n:Int} (h0:0≤n) (h1:n<256):Value.int .u8 n=bv (UInt8.ofNat n.toNat):=by
  unfold bv
  have e:(UInt8.ofNat n.toNat).toNat=n.toNat % 256:=by simp
  rw [e]
  congr 1
  omega
theorem Znb {r:Rq} (hs:r.2.2.2.2.1.size<9223372036854775808) {K:Sl→Int→Zb→Prop} {h:Zb}
    (hk:∀ out h',Own h' h.size out 1 ((Zxs r).map bv)→Ext h h'→K out (if XA r then 0 else 6) h'):ZbU r K h:=by
  unfold ZbU Zex
  refine Za1 fun h1 c1 e1 z1=>Za ?_
  refine YS c1 rfl (YS c1 rfl (YS c1 rfl (YS c1 rfl (Znk c1 rfl (YS c1 rfl ?_)))))
  refine Zfl (r:=r) hs fun h9 e9=>?_
  have c9:=Xi c1 e9
  have x9:=e1.trans e9
  have zz9:=x9.size
  refine ⟨fun e=>Za ?_,fun e=>?_⟩
  ·have e':XA r=false:=by simpa using e
   have:=hk ⟨none,0,0⟩ h9 (by unfold Zxs;rw [if_neg (by simp [e'])];exact Own.nil h9 _ 1) x9
   rw [if_neg (by simp [e'])] at this
   exact this
  have hR:XA r=true:=by simpa using e
  have hw:=ZhQ hR
  have ht:=Zem hR
  have hB:Zxs r=Ze7 r:=by unfold Zxs;rw [if_pos hR]
  rw [hB,if_pos hR] at hk
  refine YS c9 rfl (Za1 fun h13 c13 e13 z13=>Za1 fun h15 c15 e15 z15=>?_)
  rw [Zo0 (n:=r.2.1) (by omega) (by omega)] at c13
  refine ZfY c15 rfl rfl fun h16 c16 u16 z16=>?_
  have hz1:=e9.size
  have c16':=Zbn (Xi (Xi c9 e13) e15) u16 (by omega)
  refine YS c16' rfl (YS c16' rfl (YS c16' rfl (YS c16' rfl (Za1 fun h22 c22 e22 z22=>?_))))
  have c13':h22[h9.size]?=_:=Xi (Zbn (Xi c13 e15) u16 (by omega)) e22
  have hown:Own h22 h9.size ⟨some ⟨h9.size,0,none⟩,1,1⟩ 1 (([UInt8.ofNat r.2.1.toNat]:List UInt8).map bv):=⟨rfl,Nat.le_refl _,(show 1<9223372036854775808 by decide),.inr ⟨h9.size,_,5,rfl,Nat.le_refl _,c13',rfl,rfl⟩⟩
  have x22:Ext h h22:=(((x9.trans e13).trans e15).then u16 fun k hk=>by omega).trans e22
  refine Zij (base:=h9.size) (s0:=⟨some ⟨h9.size,0,none⟩,1,1⟩) (pre:=[UInt8.ofNat r.2.1.toNat]) (ns:=[r.1,r.2.2.1,r.2.2.2.1,r.2.2.2.2.2.1]) ⟨⟨_,Xi c16 e22,hown,by simp [Sl.blk];omega,.inl rfl⟩,Upd.refl _ _⟩
    ⟨rfl,Nat.le_refl _,(show 4<9223372036854775808 by decide),.inr ⟨h16.size,0,rfl,ZaD c22 fun i v hi=>by simpa using hi⟩⟩ (fun k hk=>by simp [Sl.blk] at hk ⊢;omega) (by omega) (by omega) (by simp) fun h23 hw23=>?_
  obtain ⟨⟨t24,hc24,ho24,hsw24,hblk24⟩,hu23⟩:=hw23
  have hz23:=hu23.size
  have c23:h23[h.size]?=_:=(hu23.old h.size (by omega) (by simp [Sl.blk];omega)).trans (Xi c16' e22)
  have x23:Ext h h23:=x22.then hu23 fun k hk=>by
    rcases hk with hk | hk
    ·omega
    ·simp [Sl.blk] at hk;omega
  have hol:=ho24.len
  simp only [List.length_map,Nat.mul_one] at hol
  have hol2:([UInt8.ofNat r.2.1.toNat]++[r.1,r.2.2.1,r.2.2.2.1,r.2.2.2.2.2.1].flatMap XS).length=33:=rfl
  refine Zjk hc24 rfl (Znk c23 rfl (Znk c23 rfl (Za1 fun h28 c28 e28 z28=>?_)))
  have c28':=Xi c23 e28
  have w28:=Xi hc24 e28
  refine ⟨⟨(Zn c28').trans rfl,trivial⟩,⟨(Zn c28').trans rfl,trivial⟩,⟨(Zn w28).trans rfl,trivial⟩,?_⟩
  rw [ZhB] at c28
  have hrow:Row h28 ⟨some ⟨h23.size,0,none⟩,1,1⟩ 1 [bv (UInt8.ofNat r.2.2.2.2.1.size)]:=⟨rfl,Nat.le_refl _,(show 1<9223372036854775808 by decide),.inr ⟨h23.size,0,rfl,ZaD c28 fun i v hi=>by simpa using hi⟩⟩
  refine hrow.rd ?_
  have ho28:=ho24.congr (h':=h28) fun k _ hl _=>e28.old k hl
  refine Own.app ho28 (by simp) rfl rfl (by omega) (by omega) (by omega) fun t29 h30 ho30 hl30 hu30 hblk30=>?_
  have hne:∀ k,t24.blk=some k→h.size<k:=fun k hk=>by have:=(ho24.lt hk).1;omega
  have c30:h30[h.size]?=_:=(hu30.old h.size (by omega) fun he=>by have:=hne _ he;omega).trans c28'
  refine ⟨⟨(Zn c30).trans rfl,trivial⟩,⟨(Zn c30).trans rfl,trivial⟩,?_⟩
  have hz30:=hu30.size
  refine Own.app ho30 (by simp [Zbx]) (Zfa _) rfl (by omega) (by omega) (by omega) fun t31 h32 ho32 hl32 hu32 hblk32=>?_
  have hne2:∀ k,t29.blk=some k→h.size<k:=fun k hk=>by have:=(ho30.lt hk).1;omega
  have c32:h32[h.size]?=_:=(hu32.old h.size (by omega) fun he=>by have:=hne2 _ he;omega).trans c30
  refine ⟨⟨(Zn c32).trans rfl,trivial⟩,Za (hk _ h32 ?_ ?_)⟩
  ·refine Own.base ?_ (by omega:h.size≤h9.size)
   unfold Ze7
   rw [List.map_append,List.map_append]
   exact ho32
  ·exact ((x23.trans e28).then hu30 fun k hk=>by have:=hne k hk;omega).then hu32 fun k hk=>by have:=hne2 k hk;omega
theorem Zop {r:An} {K:Sl→Int→Zb→Prop} {h:Zb}
    (hk:∀ out h',Own h' h.size out 1 ((Ztf r).map bv)→Ext h h'→K out (if ZeG r then 0 else 6) h'):ZcO r K h:=by
  unfold ZcO ZeZ
  refine Za1 fun h1 c1 e1 z1=>Za ?_
  refine YS c1 rfl (YS c1 rfl (YS c1 rfl (YS c1 rfl (YS c1 rfl ?_))))
  refine ZjM (a:=r) fun h9 e9=>?_
  have c9:=Xi c1 e9
  have x9:=e1.trans e9
  have zz9:=x9.size
  refine ⟨fun e=>Za ?_,fun e=>?_⟩
  ·have e':ZeG r=false:=by simpa using e
   have:=hk ⟨none,0,0⟩ h9 (by unfold Ztf;rw [if_neg (by simp [e'])];exact Own.nil h9 _ 1) x9
   rw [if_neg (by simp [e'])] at this
   exact this
  have hR:ZeG r=true:=by simpa using e
  have hw:1≤r.2.1∧r.2.1≤8:=by
    unfold ZeG at hR
    simp only [Bool.and_eq_true,decide_eq_true_eq] at hR
    omega
  have hB:Ztf r=ZgA r:=by unfold Ztf;rw [if_pos hR]
  rw [hB,if_pos hR] at hk
  refine YS c9 rfl (Za1 fun h13 c13 e13 z13=>Za1 fun h15 c15 e15 z15=>?_)
  rw [Zo0 (n:=r.2.1) (by omega) (by omega)] at c13
  refine ZfY c15 rfl rfl fun h16 c16 u16 z16=>?_
  have hz1:=e9.size
  have c16':=Zbn (Xi (Xi c9 e13) e15) u16 (by omega)
  refine YS c16' rfl (YS c16' rfl (YS c16' rfl (YS c16' rfl (Za1 fun h22 c22 e22 z22=>?_))))
  have c13':h22[h9.size]?=_:=Xi (Zbn (Xi c13 e15) u16 (by omega)) e22
  have hown:Own h22 h9.size ⟨some ⟨h9.size,0,none⟩,1,1⟩ 1 (([UInt8.ofNat r.2.1.toNat]:List UInt8).map bv):=⟨rfl,Nat.le_refl _,(show 1<9223372036854775808 by decide),.inr ⟨h9.size,_,5,rfl,Nat.le_refl _,c13',rfl,rfl⟩⟩
  have x22:Ext h h22:=(((x9.trans e13).trans e15).then u16 fun k hk=>by omega).trans e22
  refine Zij (base:=h9.size) (s0:=⟨some ⟨h9.size,0,none⟩,1,1⟩) (pre:=[UInt8.ofNat r.2.1.toNat]) (ns:=[r.1,r.2.2.1,r.2.2.2.1,r.2.2.2.2.1]) ⟨⟨_,Xi c16 e22,hown,by simp [Sl.blk];omega,.inl rfl⟩,Upd.refl _ _⟩
    ⟨rfl,Nat.le_refl _,(show 4<9223372036854775808 by decide),.inr ⟨h16.size,0,rfl,ZaD c22 fun i v hi=>by simpa using hi⟩⟩ (fun k hk=>by simp [Sl.blk] at hk ⊢;omega) (by omega) (by omega) (by simp) fun h23 hw23=>?_
  obtain ⟨⟨t24,hc24,ho24,hsw24,hblk24⟩,hu23⟩:=hw23
  have x23:Ext h h23:=x22.then hu23 fun k hk=>by
    rcases hk with hk | hk
    ·omega
    ·simp [Sl.blk] at hk;omega
  refine Zjk hc24 rfl (Za (hk _ h23 (Own.base ?_ (by omega:h.size≤h9.size)) x23))
  exact ho24
theorem Zp6 (n:Nat) (s:Nat):ZeN (n:Int) s=UInt8.ofNat (n / 2 ^ s):=by
  unfold ZeN
  have e:((n:Int) / 2 ^ s) % 256=((n / 2 ^ s % 256:Nat):Int):=by
    have:((2:Int) ^ s)=((2 ^ s:Nat):Int):=by simp
    rw [this]
    rfl
  rw [e,Int.toNat_natCast]
  apply UInt8.toNat_inj.1
  simp
theorem ZsQ (n:Nat) (h:n<18446744073709551616):be (XS (n:Int))=n:=by
  unfold XS be
  simp only [Zp6,List.foldl_cons,List.foldl_nil,UInt8.toNat_ofNat']
  omega
theorem ZbR {n:Int} (h0:0≤n) (h1:n<9223372036854775808):Zvo (XS n)=n:=by
  obtain ⟨m,rfl⟩:=Int.eq_ofNat_of_zero_le h0
  unfold Zvo
  rw [ZsQ m (by omega)]
  exact ZR (by omega) (by omega)
theorem ZdY {n lo hi:Int} (h:inB n lo hi=true):lo≤n∧n≤hi:=by
  unfold inB at h
  simp only [Bool.and_eq_true,decide_eq_true_eq] at h
  omega
theorem Zi3 {r:Rq} (h:XA r=true):(0≤r.1∧r.1≤2147483647)∧(0≤r.2.2.1∧r.2.2.1≤1099511627776)∧(0≤r.2.2.2.1∧r.2.2.2.1≤1099511627776)∧(0≤r.2.2.2.2.2.1∧r.2.2.2.2.2.1≤2147483647):=by
  unfold XA at h
  rw [Bool.and_eq_true] at h
  obtain ⟨h1,h2⟩:=h
  have hid:=ZdY h1
  refine ⟨hid,?_⟩
  have flow:ZmK r=true→(0≤r.2.2.1∧r.2.2.1≤1099511627776)∧(0≤r.2.2.2.1∧r.2.2.2.1≤1099511627776):=fun hf=>by
    unfold ZmK at hf
    rw [Bool.and_eq_true] at hf
    have a:=ZdY hf.1
    have b:=ZdY hf.2
    omega
  have bare:Zod r=true→(0≤r.2.2.1∧r.2.2.1≤1099511627776)∧(0≤r.2.2.2.1∧r.2.2.2.1≤1099511627776):=fun hf=>by
    unfold Zod at hf
    simp only [Bool.and_eq_true,beq_iff_eq] at hf
    omega
  generalize hc1:(r.2.1 ==1||r.2.1 ==3)=c1 at h2
  cases c1 with
  | true =>
    simp only [cond_true,Bool.and_eq_true,beq_iff_eq] at h2
    exact ⟨(flow h2.1.1).1,(flow h2.1.1).2,by omega⟩
  | false =>
    simp only [cond_false] at h2
    generalize hc2:(r.2.1 ==2)=c2 at h2
    cases c2 with
    | true =>
      simp only [cond_true,Bool.and_eq_true,beq_iff_eq] at h2
      exact ⟨(flow h2.1.1).1,(flow h2.1.1).2,by omega⟩
    | false =>
      simp only [cond_false] at h2
      generalize hc3:(r.2.1 ==4)=c3 at h2
      cases c3 with
      | true =>
        simp only [cond_true,Bool.and_eq_true] at h2
        have:=ZdY h2.1.2
        exact ⟨(bare h2.1.1).1,(bare h2.1.1).2,by omega⟩
      | false =>
        simp only [cond_false] at h2
        generalize hc4:(r.2.1 ==5)=c4 at h2
        cases c4 with
        | true =>
          simp only [cond_true,Bool.and_eq_true,beq_iff_eq] at h2
          exact ⟨(bare h2.1.1).1,(bare h2.1.1).2,by omega⟩
        | false=>cases h2
theorem ZtN {r:Rq} (h:XA r=true):ZdH (Ze7 r)=(r,0,0):=by
  obtain ⟨g1,g2,g3,g4⟩:=Zi3 h
  have hw:=ZhQ h
  have ht:=Zem h
  obtain ⟨id,want,flow,count,text,token,u⟩:=r
  dsimp only at g1 g2 g3 g4 hw ht
  have hsz:text.data.toList.length=text.size:=by simp
  have hL:Ze7 (id,want,flow,count,text,token,u)=UInt8.ofNat want.toNat::(XS id++(XS flow++(XS count++(XS token++(UInt8.ofNat text.size::text.data.toList))))):=by
    unfold Ze7
    simp
  have hlen:(Ze7 (id,want,flow,count,text,token,u)).length=34+text.size:=by
    rw [hL]
    simp only [List.length_cons,List.length_append,hsz]
    show 8+(8+(8+(8+(text.size+1))))+1=_
    omega
  have h33:(Ze7 (id,want,flow,count,text,token,u)).getD 33 0=UInt8.ofNat text.size:=by rw [hL];rfl
  have htl:tl (Ze7 (id,want,flow,count,text,token,u))=text.size:=by
    unfold tl
    rw [if_pos (by omega),h33]
    simp
    omega
  have e1:Zd1 (Ze7 (id,want,flow,count,text,token,u)) 1 8=id:=by
    unfold Zd1
    rw [if_pos (by omega)]
    have:((Ze7 (id,want,flow,count,text,token,u)).drop 1).take 8=XS id:=by rw [hL];rfl
    rw [this]
    exact ZbR (by omega) (by omega)
  have e2:Zd1 (Ze7 (id,want,flow,count,text,token,u)) 9 8=flow:=by
    unfold Zd1
    rw [if_pos (by omega)]
    have:((Ze7 (id,want,flow,count,text,token,u)).drop 9).take 8=XS flow:=by rw [hL];rfl
    rw [this]
    exact ZbR (by omega) (by omega)
  have e3:Zd1 (Ze7 (id,want,flow,count,text,token,u)) 17 8=count:=by
    unfold Zd1
    rw [if_pos (by omega)]
    have:((Ze7 (id,want,flow,count,text,token,u)).drop 17).take 8=XS count:=by rw [hL];rfl
    rw [this]
    exact ZbR (by omega) (by omega)
  have e4:Zd1 (Ze7 (id,want,flow,count,text,token,u)) 25 8=token:=by
    unfold Zd1
    rw [if_pos (by omega)]
    have:((Ze7 (id,want,flow,count,text,token,u)).drop 25).take 8=XS token:=by rw [hL];rfl
    rw [this]
    exact ZbR (by omega) (by omega)
  have e5:IntKind.wrap .u8 (Zd1 (Ze7 (id,want,flow,count,text,token,u)) 0 1)=want:=by
    rw [ZrW (x:=UInt8.ofNat want.toNat) (by rw [hL];rfl)]
    simp
    omega
  have e6:ZjX (Ze7 (id,want,flow,count,text,token,u))=text:=by
    unfold ZjX
    rw [htl,if_pos (by omega)]
    have:(Ze7 (id,want,flow,count,text,token,u)).drop 34=text.data.toList:=by rw [hL];rfl
    rw [this,List.take_of_length_le (by omega)]
  have hf:Zh3 (Ze7 (id,want,flow,count,text,token,u))=(id,want,flow,count,text,token,u):=by
    unfold Zh3
    rw [e1,e2,e3,e4,e5,e6]
  unfold ZdH
  have herr:Zxy (Ze7 (id,want,flow,count,text,token,u))=(0,0):=by
    unfold Zxy
    rw [htl,hlen,hf,h]
    simp
  rw [herr,hf]
  simp
theorem Zm1 {a:An} (h:ZeG a=true):(0≤a.1∧a.1≤2147483647)∧(1≤a.2.1∧a.2.1≤8)∧(0≤a.2.2.1∧a.2.2.1≤1099511627776)∧(0≤a.2.2.2.1∧a.2.2.2.1≤1099511627776)∧(0≤a.2.2.2.2.1∧a.2.2.2.2.1≤2147483647):=by
  unfold ZeG at h
  simp only [Bool.and_eq_true,decide_eq_true_eq] at h
  have h1:=ZdY h.1
  have h2:=ZdY h.2.2.2.1
  have h3:=ZdY h.2.2.2.2.1
  have h4:=ZdY h.2.2.2.2.2
  omega
theorem ZtO {r:An} (h:ZeG r=true):ZbP (ZgA r)=(r,0,0):=by
  obtain ⟨g1,hw,g2,g3,g4⟩:=Zm1 h
  obtain ⟨id,want,flow,count,token,u⟩:=r
  dsimp only at g1 g2 g3 g4 hw
  have hL:ZgA (id,want,flow,count,token,u)=UInt8.ofNat want.toNat::(XS id++(XS flow++(XS count++XS token))):=by
    unfold ZgA
    simp
  have hlen:(ZgA (id,want,flow,count,token,u)).length=33:=by
    rw [hL];rfl
  have e1:Zd1 (ZgA (id,want,flow,count,token,u)) 1 8=id:=by
    unfold Zd1
    rw [if_pos (by omega)]
    have:((ZgA (id,want,flow,count,token,u)).drop 1).take 8=XS id:=by rw [hL];rfl
    rw [this]
    exact ZbR (by omega) (by omega)
  have e2:Zd1 (ZgA (id,want,flow,count,token,u)) 9 8=flow:=by
    unfold Zd1
    rw [if_pos (by omega)]
    have:((ZgA (id,want,flow,count,token,u)).drop 9).take 8=XS flow:=by rw [hL];rfl
    rw [this]
    exact ZbR (by omega) (by omega)
  have e3:Zd1 (ZgA (id,want,flow,count,token,u)) 17 8=count:=by
    unfold Zd1
    rw [if_pos (by omega)]
    have:((ZgA (id,want,flow,count,token,u)).drop 17).take 8=XS count:=by rw [hL];rfl
    rw [this]
    exact ZbR (by omega) (by omega)
  have e4:Zd1 (ZgA (id,want,flow,count,token,u)) 25 8=token:=by
    unfold Zd1
    rw [if_pos (by omega)]
    have:((ZgA (id,want,flow,count,token,u)).drop 25).take 8=XS token:=by rw [hL];rfl
    rw [this]
    exact ZbR (by omega) (by omega)
  have e5:IntKind.wrap .u8 (Zd1 (ZgA (id,want,flow,count,token,u)) 0 1)=want:=by
    rw [ZrW (x:=UInt8.ofNat want.toNat) (by rw [hL];rfl)]
    simp
    omega
  have hf:Zh4 (ZgA (id,want,flow,count,token,u))=(id,want,flow,count,token,u):=by
    unfold Zh4
    rw [e1,e2,e3,e4,e5]
  unfold ZbP
  have herr:Zxz (ZgA (id,want,flow,count,token,u))=(0,0):=by
    unfold Zxz
    rw [hlen,hf,h]
    simp
  rw [herr,hf]
  simp
variable {H:Type} {enc:TypeId × Value→H} {P:Program} {w:World} {base:Nat} {spare:Nat→Bool} {held:Bool}
structure Zm9 (h:Zb) (s:Sl) (rs:List Rq):Prop where
  len:s.len=rs.length
  small:∀ r,r∈rs→r.2.2.2.2.1.size<9223372036854775808
  at_:∀ (i:Nat) (r:Rq),rs[i]?=some r→∃ b o,s.ptr=some ⟨b,o,none⟩∧h.has b (o+i*6) (rqC r)
theorem Zm9.ext {h h':Zb} {s:Sl} {rs:List Rq} (hr:Zm9 h s rs) (he:Ext h h'):Zm9 h' s rs :=
  ⟨hr.len,hr.small,fun i r hi=>by
    obtain ⟨b,o,hp,hh⟩:=hr.at_ i r hi
    exact ⟨b,o,hp,Zho (he.old b (Zkz hh (by simp))) hh⟩⟩
theorem Zm9.idx {h:Zb} {s:Sl} {rs:List Rq} (hr:Zm9 h s rs) {i:Int} {n:Nat} (hi:i=n) {r:Rq} (hx:rs[n]?=some r) {K:Nat→Nat→Prop} (hk:∀ b o,h.has b o (rqC r)→K b o):Zap s.ptr s.len i 6 K:=by
  obtain ⟨b,o,hp,hh⟩:=hr.at_ n r hx
  have hlt:n<rs.length:=by
    rcases Nat.lt_or_ge n rs.length with h9 | h9
    ·exact h9
    ·rw [List.getElem?_eq_none h9] at hx;cases hx
  have hl:=hr.len
  subst hi
  exact ⟨b,o,hp,by omega,by omega,by rw [Int.toNat_natCast];exact hk b _ hh⟩
theorem Zep {b:Sl} {l:List UInt8} {h:Zb} {K:Sl→Zb→Prop} (hb:Bytes h b l) (hsz:l.length≤140737488355328)
    (hk:∀ s h',Own h' h.size s 1 (l.map bv)→Ext h h'→(l≠[]→s.blk≠none)→K s h'):Zdr b K h:=by
  unfold Zdr ZfG
  have hlen:=hb.length
  cases hp:b.ptr with
  | none =>
    refine ZF ?_
    have:l=[]:=by
      rcases hb.at_ with h0 | ⟨bb,o,hp',_⟩
      ·exact List.eq_nil_of_length_eq_zero (by omega)
      ·rw [hp] at hp';cases hp'
    subst this
    exact hk _ _ (Own.nil h h.size 1) (Ext.refl h) (fun h=>absurd rfl h)
  | some a =>
    refine Zl ?_
    have hext:=Ext.push h (.cells #[] 5)
    refine ZdL ((hb.ext hext).rd ?_)
    have ho:=Own.newC (h:=h) (cells:=[]) (t:=5) (size:=1) (n:=0) rfl (by decide)
    refine Own.app ho (by simp [hlen]) (Zfa l) rfl (by simp [hlen];omega) (by simp [hlen];omega) (by simp) ?_
    intro s' h' ho' hl' hu hblk
    refine hk s' h' (by simpa using ho') (hext.then hu ?_) (fun _=>?_)
    ·intro k hk
     simp [Sl.blk] at hk
     omega
    ·rcases hblk with h1 | h1<;>rw [h1]<;>simp [Sl.blk]
def ZeS (l:List UInt8):Nat:=(l.take 4).foldl (fun n c=>n*256+c.toNat) 0
def ZfU (l:List UInt8):Bool :=
  if l.length=0∨l.length=1∨l.length=2 then ZeS l ==0 else if l.length=3 then decide (ZeS l≤16) else decide (1≤ZeS l)&&decide (ZeS l≤4096)
theorem ZtX (n c:Nat) (hn:n<16777216) (hc:c<256):orV .i64 (Zvi .i64 (n:Int) 8) (IntKind.wrap .i64 (c:Int))=((n*256+c:Nat):Int):=by
  have h1:Zvi .i64 (n:Int) 8=((n*256:Nat):Int):=by
    unfold Zvi
    have:min (8:Int).toNat IntKind.i64.bits=8:=by decide
    rw [this,ZR (by omega) (by omega)]
    omega
  have h2:IntKind.wrap .i64 (c:Int)=(c:Int):=ZR (by omega) (by omega)
  rw [h1,h2]
  unfold orV
  have hb:IntKind.i64.bits=64:=rfl
  have e:BitVec.toNat (BitVec.ofInt IntKind.i64.bits ((n*256:Nat):Int) ||| BitVec.ofInt IntKind.i64.bits (c:Int))=n*256+c:=by
    rw [hb,BitVec.toNat_or]
    simp only [BitVec.ofInt_natCast,BitVec.toNat_ofNat]
    rw [Nat.mod_eq_of_lt (by omega),Nat.mod_eq_of_lt (by omega),Nat.mul_comm n 256,show (256:Nat)=2 ^ 8 from rfl,← Nat.two_pow_add_eq_or_of_lt (by omega)]
  rw [e,ZR (by omega) (by omega)]
theorem Zui (l:List UInt8) (k:Nat):(l.take k).foldl (fun n c=>n*256+c.toNat) 0<256 ^ k:=by
  induction k with
  | zero=>simp
  | succ k ih =>
    rcases Nat.lt_or_ge k l.length with h | h
    ·rw [List.take_succ_eq_append_getElem h,List.foldl_append]
     have:=(l[k]).toNat_lt
     simp only [List.foldl_cons,List.foldl_nil]
     rw [Nat.pow_succ]
     omega
    ·rw [List.take_of_length_le (by omega)]
     rw [List.take_of_length_le h] at ih
     refine Nat.lt_of_lt_of_le ih (Nat.pow_le_pow_right (by omega) (by omega))
theorem ZnM {b:Sl} {l:List UInt8} {h:Zb} {K:Int→Bool→Zb→Prop} (hb:Bytes h b l) (hk:K (ZeS l) (ZfU l) h):ZcP b K h:=by
  unfold ZcP Ze0
  have hlen:=hb.length
  have hcap:=hb.cap
  have hbig:=hb.big
  have hm:Zjf 4 (b.len:Int)=((min 4 l.length:Nat):Int):=by unfold Zjf;rw [hlen];split<;>omega
  simp only [Zc,ZG]
  refine Row.slc hb (a:=0) (b:=min 4 l.length) (m:=b.cap) rfl hm rfl (Nat.zero_le _) (by omega) (by omega) (Nat.le_refl _) ?_
  intro s hs hsl hsc _
  have hs':Bytes h s (l.take (min 4 l.length)):=by
    have:((l.map bv).drop 0).take (min 4 l.length - 0)=(l.take (min 4 l.length)).map bv:=by simp
    rw [this] at hs
    exact hs
  have hmin:l.take (min 4 l.length)=l.take 4:=by
    rcases Nat.lt_or_ge 4 l.length with h | h
    ·rw [Nat.min_eq_left (by omega)]
    ·rw [Nat.min_eq_right (by omega),List.take_of_length_le (Nat.le_refl _),List.take_of_length_le h]
  rw [hmin] at hs'
  refine Yc (fun s' h'=>h'=h∧∃ k:Nat,k≤s.len∧s'.2.1=(k:Int)∧s'.1=((((l.take 4).take k).foldl (fun n c=>n*256+c.toNat) 0:Nat):Int)) (fun s' _=>s.len - s'.2.1.toNat) ⟨rfl,0,Nat.zero_le _,rfl,by simp⟩ ?_
  rintro ⟨n,i,u⟩ h' ⟨rfl,k,hk',hi,hn⟩
  dsimp only at hi hn
  subst hi hn
  dsimp only
  have hsl':s.len=min 4 l.length:=by simpa using hsl
  refine Zj ?_ ?_
  ·intro hlt
   have hlt':k<(l.take 4).length:=by rw [List.length_take];omega
   have hx:(l.take 4)[k]?=some (l.take 4)[k]:=List.getElem?_eq_getElem hlt'
   refine Bytes.idx hs' rfl hx ?_
   have hlt2:((l.take 4).take k).foldl (fun n c=>n*256+c.toNat) 0<16777216:=by
     have h1:=Zui (l.take 4) k
     have:256 ^ k≤256 ^ 3:=Nat.pow_le_pow_right (by omega) (by omega)
     omega
   refine ⟨by omega,?_⟩
   refine ⟨⟨rfl,k+1,by omega,?_,?_⟩,?_⟩
   ·rw [ZR (by omega) (by omega)]
    omega
   ·rw [ZtX _ _ hlt2 ((l.take 4)[k]).toNat_lt,List.take_succ_eq_append_getElem hlt',List.foldl_append]
    rfl
   ·rw [ZR (by omega) (by omega)]
    omega
  ·intro hge
   have hfull:(l.take 4).take k=l.take 4:=List.take_of_length_le (by rw [List.length_take];omega)
   rw [hfull]
   have key:∀ (v:Bool),ZfU l=v→K ((ZeS l:Nat):Int) v h':=fun v hv=>hv▸hk
   unfold ZfU at key
   have eN:((List.foldl (fun n (c:UInt8)=>n*256+c.toNat) 0 (List.take 4 l):Nat):Int)=((ZeS l:Nat):Int):=rfl
   rw [eN]
   generalize ZeS l=N at key ⊢
   rw [hlen]
   have e0:((N:Int) ==0)=(N ==0):=by rw [Bool.eq_iff_iff];simp
   have e16:decide ((N:Int)≤16)=decide (N≤16):=by rw [Bool.eq_iff_iff];simp;omega
   have e4:decide ((N:Int)≤4096)=decide (N≤4096):=by rw [Bool.eq_iff_iff];simp;omega
   refine ZsC ?_
   rw [e0,e16,e4]
   have h4:l.length=0∨l.length=1∨l.length=2∨l.length=3∨4≤l.length:=by omega
   rcases h4 with h4 | h4 | h4 | h4 | h4
   ·rw [h4] at key ⊢;exact ZF (ZF (key _ rfl))
   ·rw [h4] at key ⊢;exact Zl (ZF (ZF (key _ rfl)))
   ·rw [h4] at key ⊢;exact Zl (Zl (ZF (key _ rfl)))
   ·rw [h4] at key ⊢;exact Zl (Zl (Zl (ZF (key _ rfl))))
   ·rw [if_neg (by omega),if_neg (by omega)] at key
    have n0:((l.length:Int) ==0)=false:=by simp;intro h;subst h;simp at h4
    have n1:((l.length:Int) ==1)=false:=by simp;omega
    have n2:((l.length:Int) ==2)=false:=by simp;omega
    have n3:((l.length:Int) ==3)=false:=by simp;omega
    rw [n0,n1,n2,n3]
    refine Zl (Zl (Zl (Zl ?_)))
    refine Zj (fun h=>key _ ?_) (fun h=>key _ ?_)
    ·have:1≤N:=by omega
     simp [this]
    ·have:¬ 1≤N:=by omega
     simp [this]
def Zea (n:Nat):List UInt8:=[UInt8.ofNat (n / 16777216),UInt8.ofNat (n / 65536),UInt8.ofNat (n / 256),UInt8.ofNat n]
def Zcj (p:List UInt8):Int:=if p.length>4096 then 5 else if p.length=0 then 6 else 0
def Zez (p:List UInt8):List UInt8:=if p.length>4096∨p.length=0 then [] else Zea p.length++p
theorem Znw (n k:Nat) (hk:k<64):ZlM .i64 (n:Int) (k:Int)=((n / 2 ^ k:Nat):Int):=by
  unfold ZlM
  have hb:IntKind.i64.bits=64:=rfl
  rw [hb]
  have:min (k:Int).toNat 64=k:=by omega
  rw [this]
  rw [Int.fdiv_eq_ediv_of_nonneg _ (by have:(0:Int)<2 ^ k:=Int.pow_pos (by decide);omega)]
  have e:((2:Int) ^ k)=((2 ^ k:Nat):Int):=by simp
  rw [e]
  rfl
theorem ZkQ {b:Sl} {l:List UInt8} {h:Zb} {K:Sl→Int→Zb→Prop} (hb:Bytes h b l)
    (hk:∀ s h',Own h' h.size s 1 ((Zez l).map bv)→Ext h h'→(Zcj l=0→s.blk≠none)→K s (Zcj l) h'):Zbq b K h:=by
  unfold Zbq ZfE
  have hlen:=hb.length
  simp only [Zc,ZG]
  refine Zj (fun h1=>?_) (fun h1=>?_)
  ·have e1:Zcj l=5:=by unfold Zcj;rw [if_pos (by omega)]
   have e2:Zez l=[]:=by unfold Zez;rw [if_pos (by omega)]
   have:=hk ⟨none,0,0⟩ h (by rw [e2];exact Own.nil h _ 1) (Ext.refl h) (fun h=>by rw [e1] at h;cases h)
   rw [e1] at this
   exact this
  ·refine ⟨fun h2=>?_,fun h2=>?_⟩
   ·simp at h2
    have e1:Zcj l=6:=by unfold Zcj;rw [if_neg (by omega),if_pos (by omega)]
    have e2:Zez l=[]:=by unfold Zez;rw [if_pos (by omega)]
    have:=hk ⟨none,0,0⟩ h (by rw [e2];exact Own.nil h _ 1) (Ext.refl h) (fun h=>by rw [e1] at h;cases h)
    rw [e1] at this
    exact this
   ·simp at h2
    have e1:Zcj l=0:=by unfold Zcj;rw [if_neg (by omega),if_neg (by omega)]
    have e2:Zez l=Zea l.length++l:=by unfold Zez;rw [if_neg (by omega)]
    refine ⟨by omega,by omega,by omega,ZdL ?_⟩
    have hcells:[Value.int .u8 (IntKind.wrap .u8 (ZlM .i64 (b.len:Int) 24)),Value.int .u8 (IntKind.wrap .u8 (ZlM .i64 (b.len:Int) 16)),Value.int .u8 (IntKind.wrap .u8 (ZlM .i64 (b.len:Int) 8)),Value.int .u8 (IntKind.wrap .u8 (b.len:Int))]=(Zea l.length).map bv:=by
      rw [show (24:Int)=((24:Nat):Int) from rfl,show (16:Int)=((16:Nat):Int) from rfl,show (8:Int)=((8:Nat):Int) from rfl,Znw _ _ (by omega),Znw _ _ (by omega),Znw _ _ (by omega)]
      rw [ZhB,ZhB,ZhB,ZhB,hlen]
      rfl
    rw [hcells]
    have hext:=Ext.push h (.cells ((Zea l.length).map bv).toArray 5)
    refine (hb.ext hext).rd ?_
    have ho:=Own.newC (h:=h) (cells:=(Zea l.length).map bv) (t:=5) (size:=1) (n:=4) (by simp [Zea]) (by decide)
    refine Own.app ho (by simp [hlen]) (Zfa l) rfl (by simp;omega) (by simp;omega) (by simp) ?_
    intro s' h' ho' hl' hu hblk
    have:=hk s' h' (by rw [e2,List.map_append];exact ho') (hext.then hu ?_) (fun _=>?_)
    ·rw [e1] at this
     exact this
    ·intro k hk
     simp [Sl.blk] at hk
     omega
    ·rcases hblk with h1 | h1<;>rw [h1]<;>simp [Sl.blk]
theorem Zmy {all:List UInt8} (h:¬ all.length<4) (h2:ZfU all=true):1≤ZeS all∧ZeS all≤4096:=by
  unfold ZfU at h2
  rw [if_neg (by omega),if_neg (by omega)] at h2
  simpa using h2
theorem Zmt {ll:List (List UInt8)} {k:Nat} {l:List UInt8} (h:ll[k]?=some l):l.length+1≤total ll:=by
  induction ll generalizing k with
  | nil=>simp at h
  | cons x r ih =>
    cases k with
    | zero=>simp at h;subst h;simp [total]
    | succ k =>
      have:=ih (by simpa using h)
      simp only [total,List.map_cons,List.sum_cons] at this ⊢
      omega
def good (l:List UInt8):Prop:=1≤l.length∧l.length≤4096
def fr (ll:List (List UInt8)):List UInt8:=ll.flatMap fun l=>Zea l.length++l
theorem Zcg (n:Nat):(Zea n).length=4:=rfl
theorem ZnT {n:Nat} (hn:n≤4096) (r:List UInt8):ZeS (Zea n++r)=n:=by
  unfold ZeS
  rw [List.take_append_of_le_length (by simp [Zcg]),List.take_of_length_le (by simp [Zcg])]
  simp only [Zea,List.foldl_cons,List.foldl_nil]
  have e:∀ m:Nat,(UInt8.ofNat m).toNat=m % 256:=fun m=>by simp
  rw [e,e,e,e]
  omega
theorem Zn0 (l:List UInt8) (ll:List (List UInt8)):fr (l::ll)=Zea l.length++(l++fr ll):=by simp [fr]
theorem ZzG (ll:List (List UInt8)):(fr ll).length≤4*total ll:=by
  induction ll with
  | nil=>simp [fr,total]
  | cons l ll ih =>
    rw [Zn0]
    simp only [total,List.map_cons,List.sum_cons,List.length_append,Zcg] at ih ⊢
    omega
theorem Zsq {l:List UInt8} {ll:List (List UInt8)} (hg:good l):¬ (fr (l::ll)).length<4∧ZeS (fr (l::ll))=l.length∧ZfU (fr (l::ll))=true∧¬ (fr (l::ll)).length - 4<l.length ∧
    ((fr (l::ll)).drop 4).take l.length=l∧(fr (l::ll)).drop (4+l.length)=fr ll:=by
  obtain ⟨g1,g2⟩:=hg
  rw [Zn0]
  have hl:(Zea l.length++(l++fr ll)).length=4+l.length+(fr ll).length:=by simp [Zcg];omega
  have hv:=ZnT g2 (l++fr ll)
  have e4:(Zea l.length++(l++fr ll)).drop 4=l++fr ll:=by
    rw [List.drop_append_of_le_length (by simp [Zcg]),List.drop_of_length_le (by simp [Zcg])];rfl
  refine ⟨by omega,hv,?_,by omega,?_,?_⟩
  ·unfold ZfU
   rw [hv,if_neg (by omega),if_neg (by omega)]
   simp [g1,g2]
  ·rw [e4];simp
  ·rw [← List.drop_drop,e4];simp
theorem Zns (ll:List (List UInt8)):ll.length≤total ll:=by
  unfold total
  induction ll with
  | nil=>simp
  | cons x r ih=>simp only [List.map_cons,List.sum_cons,List.length_cons];omega
theorem ZmH (l:List UInt8):(Zcj l=0∧good l)∨Zcj l=5∨Zcj l=6:=by
  unfold Zcj good
  split
  ·exact .inr (.inl rfl)
  ·split
   ·exact .inr (.inr rfl)
   ·exact .inl ⟨rfl,by omega⟩
theorem ZnZ {l:List UInt8} (hg:good l):Zez l=Zea l.length++l:=by
  unfold Zez
  rw [if_neg (by unfold good at hg;omega)]
theorem Zw4 (a:List (List UInt8)) (l:List UInt8):fr (a++[l])=fr a++(Zea l.length++l):=by simp [fr]
theorem Zsj {l:List UInt8} (h:Zcj l=0):good l:=by
  rcases ZmH l with h0 | h0 | h0
  ·exact h0.2
  ·rw [h0] at h;cases h
  ·rw [h0] at h;cases h
theorem Zng {l:List UInt8} (h:good l):Zcj l=0:=by
  unfold Zcj good at *
  rw [if_neg (by omega),if_neg (by omega)]
def ZfH:List (List UInt8)→Int
  | []=>0
  | l::r=>if Zcj l=0 then ZfH r else Zcj l
def Zg4 (ll:List (List UInt8)):List UInt8:=if ZfH ll=0 then fr ll else []
theorem Zgi:∀ (ll:List (List UInt8)),(∀ l∈ll,good l)→ZfH ll=0
  | [],_=>rfl
  | l::r,h=>by rw [ZfH,if_pos (Zng (h l (by simp)))];exact Zgi r fun x hx=>h x (by simp [hx])
theorem Zju:∀ (ll:List (List UInt8)) (k:Nat) (l:List UInt8),(∀ l∈ll.take k,good l)→ll[k]?=some l→Zcj l≠0→ZfH ll=Zcj l
  | [],k,l,_,hk,_=>by simp at hk
  | x::r,0,l,_,hk,he=>by
    simp at hk
    subst hk
    rw [ZfH,if_neg he]
  | x::r,k+1,l,h,hk,he=>by
    rw [ZfH,if_pos (Zng (h x (by simp)))]
    exact Zju r k l (fun y hy=>h y (by simp [hy])) (by simpa using hk) he
theorem Znf {s:Sl} {ll:List (List UInt8)} {h:Zb} {K:Sl→Int→Zb→Prop} (hr:Zj6 h s ll) (hb:total ll≤1099511627776)
    (hk:∀ out h',Own h' h.size out 1 ((Zg4 ll).map bv)→Ext h h'→K out (ZfH ll) h'):ZcQ s K h:=by
  unfold ZcQ Ze1
  have hlen:=hr.len
  have hcnt:=Zns ll
  refine Za (Yc (fun t h'=>∃ k:Nat,k≤ll.length∧t.2.1=(k:Int)∧(∀ l∈ll.take k,good l)∧Ext h h'∧Own h' h.size t.1 1 ((fr (ll.take k)).map bv)) (fun t _=>ll.length - t.2.1.toNat) ⟨0,Nat.zero_le _,rfl,by simp,Ext.refl h,Own.nil h _ 1⟩ ?_)
  rintro ⟨out,i,u⟩ h' ⟨k,hkl,hi,hgood,hext,hown⟩
  dsimp only at hi hown
  subst hi
  dsimp only
  refine Zj (fun hlt=>?_) (fun hge=>Za ?_)
  ·have hk1:k<ll.length:=by omega
   have hl:ll[k]?=some ll[k]:=List.getElem?_eq_getElem hk1
   refine Zj6.idx (hr.ext hext) rfl hl fun x hx=>?_
   refine ZkQ hx fun f h2 hf hext2 _=>Za ?_
   refine ⟨fun he=>Za ?_,fun he=>?_⟩
   ·have hne:Zcj ll[k]≠0:=by simpa using he
    have hE:=Zju ll k ll[k] hgood hl hne
    have hB:Zg4 ll=[]:=by unfold Zg4;rw [hE,if_neg hne]
    have:=hk ⟨none,0,0⟩ h2 (by rw [hB];exact Own.nil _ _ 1) (hext.trans hext2)
    rw [hE] at this
    exact this
   ·have hg:good ll[k]:=Zsj (by simpa using he)
    rw [ZnZ hg] at hf
    have hfl:=hf.len
    have hol:=hown.len
    have hll:=Zmt hl
    have hfr:=ZzG (ll.take k)
    have htk:=Zpj ll k
    simp only [List.length_map,List.length_append,Zcg,Nat.mul_one] at hfl hol
    refine hf.row.rd ?_
    have hown2:=hown.congr (h':=h2) fun b _ hl _=>hext2.old b hl
    refine Own.app hown2 (by simp only [List.length_map,List.length_append,Zcg,Nat.mul_one];exact hfl) (Zfa _) rfl (by omega) (by omega) (by have:=hext.size;have:=hext2.size;omega) fun s' h3 ho' _ hu _=>?_
    refine ⟨⟨k+1,by omega,?_,?_,(hext.trans hext2).then hu fun b hb=>(hown2.lt hb).1,?_⟩,?_⟩
    ·first | omega | (dsimp only;rw [ZR (by omega) (by omega)];omega) | (rw [ZR (by omega) (by omega)];omega)
    ·rw [List.take_succ_eq_append_getElem hk1]
     intro l hl
     rcases List.mem_append.1 hl with hl | hl
     ·exact hgood l hl
     ·obtain rfl:l=ll[k]:=by simpa using hl
      exact hg
    ·rw [List.take_succ_eq_append_getElem hk1,Zw4,List.map_append]
     exact ho'
    ·first | omega | (dsimp only;rw [ZR (by omega) (by omega)];omega) | (rw [ZR (by omega) (by omega)];omega)
  ·have hfull:ll.take k=ll:=List.take_of_length_le (by omega)
   rw [hfull] at hgood hown
   have hE:=Zgi ll hgood
   have hB:Zg4 ll=fr ll:=by unfold Zg4;rw [hE,if_pos rfl]
   have:=hk out h' (by rw [hB];exact hown) hext
   rw [hE] at this
   exact this
theorem Xk {α:Type} {l:List α} {i:Nat} {x:α} (h:l[i]?=some x):i<l.length:=by
  rcases Nat.lt_or_ge i l.length with h9 | h9
  ·exact h9
  ·rw [List.getElem?_eq_none h9] at h;cases h
theorem Zle (r:Rq):(Ze7 r).length=34+r.2.2.2.2.1.size:=by
  have hsz:r.2.2.2.2.1.data.toList.length=r.2.2.2.2.1.size:=by simp
  unfold Ze7
  simp only [List.length_append,hsz]
  show 1+32+1+_=_
  omega
theorem ZtR {T:TypeId} {h h1:Zb} {base:Nat} {s x:Sl} {ll:List (List UInt8)} {l:List UInt8} {K:Sl→Zb→Prop} (ho:Xj h base s ll) (hext:Ext h h1) (hx:Own h1 h.size x 1 (l.map bv)) (hbase:base≤h.size) (hn:ll.length≤1099511627776)
    (hk:∀ s' h',Xj h' base s' (ll++[l])→Upd (fun k=>s.blk=some k) h1 h'→K s' h') :
    newC h1 [Value.slice x.ptr x.len x.cap] T fun b h2=>rdS ⟨some ⟨b,0,none⟩,1,1⟩ 1 h2 fun new=>app T 1 24 [Value.slice none 0 0] s 1 new h2 K:=by
  refine Za1 fun h2 c2 e2 z2=>?_
  have hrow:Row h2 ⟨some ⟨h1.size,0,none⟩,1,1⟩ 1 [slV x]:=⟨rfl,Nat.le_refl _,(show 1<9223372036854775808 by decide),.inr ⟨h1.size,0,rfl,ZaD c2 fun i v hi=>by simpa [slV] using hi⟩⟩
  refine hrow.rd ?_
  have hext2:=hext.trans e2
  have holen:=Xj.len ho
  have z1:=hext.size
  obtain ⟨ss,g1,g2,g3,g4,g5⟩:=ho.rows
  have g1':=g1.congr (h':=h2) fun k _ hl _=>hext2.old k hl
  refine Own.app g1' (by simp) rfl rfl (by omega) (by omega) (by omega) fun s' h' ho' hl' hu hblk=>hk s' h' ?_ ?_
  ·refine Xj.snoc (x:=x) (h1:=h2) ho hext2 (hx.congr fun k _ hl _=>e2.old k hl) hbase ?_ hu hblk
   intro vs hv1 _
   have:vs=ss.map slV:=by
     rcases hv1.at_ with ⟨hz1,hz2⟩ | ⟨k1,c1,e1,z1,z2,z3,z4,z5⟩
     ·have a1:=hv1.len
      have a2:=g1.len
      have a3:=hv1.cap
      have b1:vs=[]:=List.eq_nil_of_length_eq_zero (by rw [a1];omega)
      have b2:ss.map slV=[]:=List.eq_nil_of_length_eq_zero (by rw [a2];omega)
      rw [b1,b2]
     ·rcases g1.at_ with ⟨hz1,hz2⟩ | ⟨k2,c2,e2,y1,y2,y3,y4,y5⟩
      ·rw [hz1] at z1;cases z1
      ·rw [z1] at y1
       cases y1
       rw [z3] at y3
       cases y3
       rw [z5,y5]
   rw [this]
   exact ho'
  ·exact Upd.then (e2.upd _) hu fun k _ hk=>hk
def Zm2 (rs:List Rq):Bool:=rs.all XA
def ZEM (rs:List Rq):Int:=if Zm2 rs then 0 else 6
def Zoh (rs:List Rq):List UInt8:=if Zm2 rs then fr (rs.map Ze7) else []
theorem ZoO {r:Rq} (h:XA r=true):good (Ze7 r):=by
  have:=Zem h
  unfold good
  rw [Zle]
  omega
theorem Zl9:∀ (rs:List Rq),(∀ r,r∈rs→XA r=true)→total (rs.map Ze7)≤99*rs.length
  | [],_=>by simp [total]
  | r::rs,h=>by
    have h1:=Zl9 rs fun x hx=>h x (.tail _ hx)
    have h2:=Zem (h r (.head _))
    have h3:=Zle r
    simp only [total,List.map_cons,List.sum_cons,List.length_cons] at h1 ⊢
    omega
theorem ZI3 {h:Zb} {b o:Nat} {r:Rq} {K:Int→Int→Int→Int→ByteArray→Int→Prop} (hh:h.has b o (rqC r)) (hk:K r.1 r.2.1 r.2.2.1 r.2.2.2.1 r.2.2.2.2.1 r.2.2.2.2.2.1) :
    ldI h b o .i64 fun t3=>ldI h b (o+1) .u8 fun t4=>ldI h b (o+2) .i64 fun t5=>ldI h b (o+3) .i64 fun t6=>ldS h b (o+4) fun t7=>ldI h b (o+5) .i64 fun t8=>K t3 t4 t5 t6 t7 t8:=by
  obtain ⟨h0,h1,h2,h3,h4,h5,_⟩:=hh
  exact ⟨_,h0,_,h1,_,h2,_,h3,_,h4,_,h5,hk⟩
theorem ZuK {l:Sl} {rs:List Rq} {h:Zb} {K:Sl→Int→Zb→Prop} (hl:Zm9 h l rs) (hn:rs.length≤1048576)
    (hk:∀ out h',Own h' h.size out 1 ((Zoh rs).map bv)→Ext h h'→K out (ZEM rs) h'):Zeu l K h:=by
  unfold Zeu Zg1
  have hlen:=hl.len
  refine Za (Yc (fun p h'=>∃ k:Nat,p.2.1=(k:Int)∧k≤rs.length∧Ext h h'∧(∀ r,r∈rs.take k→XA r=true)∧Xj h' h.size p.1 ((rs.take k).map Ze7)) (fun p _=>rs.length - p.2.1.toNat)
    ⟨0,rfl,Nat.zero_le _,Ext.refl h,by simp,Xj.nil h _⟩ ?_)
  rintro ⟨pay,i,u⟩ h2 ⟨k,hi,hkl,hext,hall,hpay⟩
  dsimp only at hi hpay
  subst hi
  dsimp only
  refine Zj (fun hlt=>?_) (fun hge=>?_)
  ·have hk1:k<rs.length:=by omega
   have hx:rs[k]?=some rs[k]:=List.getElem?_eq_getElem hk1
   have hmem:rs[k]∈rs:=List.getElem_mem hk1
   have htk:rs.take (k+1)=rs.take k++[rs[k]]:=List.take_succ_eq_append_getElem hk1
   generalize rs[k]=r at hx hmem htk
   refine Zm9.idx (hl.ext hext) rfl hx fun b o hh=>ZI3 hh ?_
   refine Za1 fun h10 c10 e10 z10=>ZfY c10 rfl rfl fun h11 c11 u11 z11=>?_
   have e11:Ext h2 h11:=e10.then u11 fun k hk=>by omega
   refine YS c11 rfl (YS c11 rfl (YS c11 rfl (YS c11 rfl (Znk c11 rfl (YS c11 rfl ?_)))))
   refine Znb (r:=r) (hl.small r hmem) fun out h20 ho20 e20=>Za ?_
   refine ⟨fun e=>Za ?_,fun e=>?_⟩
   ·have hbad:XA r=false:=by
      cases hc:XA r with
      | false=>rfl
      | true=>rw [hc] at e;simp at e
    have hA:Zm2 rs=false:=by
      unfold Zm2
      rw [List.all_eq_false]
      exact ⟨r,hmem,by simp [hbad]⟩
    have:=hk ⟨none,0,0⟩ h20 (by unfold Zoh;rw [hA];exact Own.nil _ _ 1) ((hext.trans e11).trans e20)
    unfold ZEM at this
    rw [hA] at this
    rw [hbad]
    exact this
   ·have hR:XA r=true:=by
      cases hc:XA r with
      | true=>rfl
      | false=>rw [hc] at e;simp at e
    have hq:Zxs r=Ze7 r:=by unfold Zxs;rw [if_pos hR]
    rw [hq] at ho20
    have z:=hext.size
    have z2:=e11.size
    have hol:=Xj.len hpay
    refine ZtR hpay (e11.trans e20) (ho20.base z2) z (by simp;omega) fun s' h' ho' hu'=>⟨⟨k+1,?_,by omega,?_,?_,?_⟩,?_⟩
    ·rw [ZR (by omega) (by omega)];omega
    ·obtain ⟨ss,g1,_⟩:=hpay.rows
     exact ((hext.trans e11).trans e20).then hu' fun k hk=>(g1.lt hk).1
    ·rw [htk]
     intro x hx
     rcases List.mem_append.1 hx with hx | hx
     ·exact hall x hx
     ·have:x=r:=by simpa using hx
      rw [this];exact hR
    ·rw [htk,List.map_append]
     exact ho'
    ·rw [ZR (by omega) (by omega)];omega
  ·have hk9:k=rs.length:=by omega
   subst hk9
   rw [List.take_of_length_le (Nat.le_refl _)] at hall hpay
   have ht:=Zl9 rs hall
   have hE:ZfH (rs.map Ze7)=0:=Zgi _ fun l hl=>by
     obtain ⟨r,hr,rfl⟩:=List.mem_map.1 hl
     exact ZoO (hall r hr)
   have hB:Zg4 (rs.map Ze7)=fr (rs.map Ze7):=by unfold Zg4;rw [hE,if_pos rfl]
   have hrows:Zj6 h2 pay (rs.map Ze7):=by
     obtain ⟨ss,g1,g2,g3,_⟩:=hpay.rows
     exact ⟨ss,g1.row,g2,fun i x l hx hl=>(g3 i x l hx hl).row⟩
   refine Znf hrows (by omega) fun out h' ho' e'=>Za ?_
   rw [hB] at ho'
   have hA:Zm2 rs=true:=by
     unfold Zm2
     rw [List.all_eq_true]
     exact fun x hx=>hall x hx
   have:=hk out h' (by unfold Zoh;rw [hA,if_pos rfl];exact ho'.base hext.size) (hext.trans e')
   unfold ZEM at this
   rw [hA,if_pos rfl] at this
   rw [hE]
   exact this
end Go.Proofs.YtbppjmcinoffnaaGreat
