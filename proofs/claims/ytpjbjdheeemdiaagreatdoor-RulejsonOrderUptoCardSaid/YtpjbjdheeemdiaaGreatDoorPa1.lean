/- The words in which the functions' models are written: memory as an array of blocks, and what one step of a function asks of it and leaves. Plain definitions, no program. -/
import GoSem.Core.World
import GoSem.Core.View
import GoSem.Core.Lib
import GoSem.Instr.Lookup
import Derived.MapKept
import Derived.Laws.IdiomRangeMap
import Derived.Test.YtpjbjdheeemdiaaGreatDoorProg
import Derived.Shelf.Unicode.DecodeSlow
import Derived.Lib.Bytealg
import Derived.Lib.RuneCount
import Derived.Lib.ItoaNum
import Derived.Lib.AtoiAll
import Derived.Lib.ValidU
import Derived.Lib.LaidTab
import Derived.Lib.Case
import Derived.Lib.IndexMore
import Derived.Lib.TrimByte
import Derived.Lib.Repeat
set_option linter.unusedVariables false
set_option linter.unusedSimpArgs false
namespace Go
abbrev Aqa:=@Bool.true_and
abbrev Aqb:=@Bool.false_and
abbrev Aqc:=@Bool.false_eq_true
abbrev Aqd:=@Nat.lt_or_ge
abbrev Aqe:=@Array.getElem?_eq_none
abbrev Aqf:=@List.getElem?_take
abbrev Aqg:=@List.getElem?_drop
abbrev Aqh:=@Nat.add_assoc
abbrev Aqi:=@Array.getElem?_modify
abbrev Aqj:=@List.length_cons
abbrev Aqk:=@Array.toList_setIfInBounds
abbrev Aql:=@List.take_succ_eq_append_getElem
abbrev Aqm:=@List.take_set_of_le
abbrev Aqn:=@List.drop_set_of_lt
abbrev Aqo:=@Nat.le_refl
abbrev Aqp:=@Nat.le_trans
abbrev Aqq:=@Nat.lt_of_lt_of_le
abbrev Aqr:=@List.eq_nil_of_length_eq_zero
abbrev Aqs:=@Nat.zero_mul
abbrev Aqt:=@List.getElem?_eq_none
abbrev Aqu:=@Int.toNat_natCast
abbrev Aqv:=@Nat.mul_one
abbrev Aqw:=@Nat.eq_zero_or_pos
abbrev Aqx:=@Option.map_some
abbrev Aqy:=@Nat.add_mul
abbrev Aqz:=@Nat.mul_le_mul_right
abbrev Awa:=@Array.length_toList
abbrev Awb:=@Nat.zero_add
abbrev Awc:=@List.take_append_of_le_length
abbrev Awd:=@List.take_of_length_le
abbrev Awe:=@List.length_append
abbrev Awf:=@Option.isSome_none
abbrev Awg:=@Nat.eq_of_beq_eq_true
abbrev Awh:=@Option.some.injEq
abbrev Awi:=@Nat.ne_of_beq_eq_false
abbrev Awj:=@Array.getElem?_setIfInBounds_ne
abbrev Awk:=@Sem.run_bind
abbrev Awl:=@Result.andThen_ok
abbrev Awm:=@List.all_cons
abbrev Awn:=@Bool.and_eq_true
abbrev Awo:=@List.map_cons
abbrev Awp:=@Sem.run_pure
abbrev Awq:=@List.foldl_cons
abbrev Awr:=@List.mem_cons
abbrev Aws:=@List.mem_cons_of_mem
abbrev Awt:=@Nat.le_of_ble_eq_true
abbrev Awu:=@List.getElem?_append_left
abbrev Awv:=@Nat.mod_eq_of_lt
abbrev Aww:=@List.getElem?_append_right
abbrev Awx:=@Nat.succ_mul
abbrev Awy:=@List.ext_getElem?
abbrev Awz:=@List.getElem?_map
abbrev Axa:=@List.mapM_cons
abbrev Axb:=@Array.mapM_eq_mapM_toList
abbrev Axc:=@List.all_eq_true
abbrev Axd:=@Option.isSome_iff_exists
abbrev Axe:=@Array.ext'
abbrev Axf:=@Int.toNat_of_nonneg
abbrev Axg:=@Nat.mul_assoc
abbrev Axh:=@List.getElem?_toArray
abbrev Axi:=@List.getElem?_cons_zero
abbrev Axj:=@List.getElem?_cons_succ
abbrev Axk:=@Nat.add_zero
abbrev Axl:=@Bool.not_false
abbrev Axm:=@List.forIn_cons
abbrev Axn:=@Nat.one_ne_zero
abbrev Axo:=@Option.getD_some
abbrev Axp:=@List.drop_drop
abbrev Axq:=@List.mem_of_getElem?
abbrev Axr:=@Array.getElem?_toList
abbrev Axs:=@List.forall_mem_cons
abbrev Axt:=@Array.getD_eq_getD_getElem?
abbrev Axu:=@List.mem_singleton
abbrev Axv:=@List.mem_filter
abbrev Axw:=@Option.isNone_iff_eq_none
abbrev Axx:=@Nat.beq_refl
abbrev Axy:=@List.cons.injEq
abbrev Axz:=@List.mem_append
abbrev Aya:=@Array.getElem?_append
abbrev Ayb:=@List.getElem?_eq_getElem
abbrev Ayc:=@Option.map_eq_some_iff
abbrev Ayd:=@Array.getElem?_eq_some_iff
abbrev Aye:=@List.suffix_cons
abbrev Ayf:=@List.dropWhile_suffix
abbrev Ayg:=@List.suffix_refl
abbrev Ayh:=@List.exists_cons_of_ne_nil
abbrev Ayi:=@List.dropWhile_cons_of_pos
abbrev Ayj:=@List.dropWhile_cons_of_neg
abbrev Ayk:=@Nat.zero_le
abbrev Ayl:=@List.drop_eq_getElem_cons
abbrev Aym:=@List.drop_length
abbrev Ayn:=@List.take_succ_cons
abbrev Ayo:=@List.length_take
abbrev Ayp:=@List.cons_append
abbrev Ayq:=@List.nil_append
abbrev Ayr:=@Bool.and_true
abbrev Ays:=@List.length_nil
abbrev Ayt:=@List.append_nil
abbrev Ayu:=@List.take_add_one
abbrev Ayv:=@List.getElem?_set_self
abbrev Ayw:=@List.mem_map
abbrev Ayx:=@List.length_map
abbrev Ayy:=@List.map_append
abbrev Ayz:=@List.append_assoc
abbrev Aza:=@List.dropWhile_append_of_pos
abbrev Azb:=@Nat.le_succ
abbrev Azc:=@Nat.lt_succ_self
abbrev Azd:=@Nat.mul_comm
abbrev Aze:=@Bool.and_assoc
abbrev Azf:=@List.drop_of_length_le
abbrev Azg:=@List.take_append_drop
abbrev Azh:=@List.length_drop
abbrev Azi:=@List.not_mem_nil
abbrev Azj:=@List.getElem?_eq_some_iff
abbrev Azk:=@List.getElem?_of_mem
abbrev Azl:=@List.getElem_mem
abbrev Azm:=@List.all_append
abbrev Azn:=@List.flatMap_cons
abbrev Azo:=@List.sum_cons
abbrev Azp:=@List.map_map
abbrev Azq:=@List.getElem?_set_ne
abbrev Azr:=@List.nodup_cons
abbrev Azs:=@List.getElem?_eq_none_iff
abbrev Azt:=@Nat.not_lt
abbrev Azu:=@Nat.le_add_left
abbrev Azv:=@List.flatMap_append
abbrev Azw:=@List.flatMap_singleton
abbrev Azx:=@Bool.eq_iff_iff
abbrev Azy:=@List.all_nil
abbrev Azz:=@List.map_nil
abbrev Ava:=@Nat.eq_of_mul_eq_mul_right
abbrev Avb:=@List.getD_eq_getElem?_getD
abbrev Avc:=@List.map_reverse
abbrev Avd:=@List.map_id
abbrev Ave:=@List.sum_nil
abbrev Avf:=@List.drop_eq_nil_of_le
end Go
namespace Go.Fw
open Go
abbrev Zc:=Array Obj
abbrev HP:=Zc->Prop
def Zc.cell (h:Zc) (b o:Nat):Option Value :=
  match h[b]? with
  | some (.cells c _ _)=>c[o]?
  | _=>none
def Zc.froz (h:Zc) (b o:Nat):Bool :=
  match h[b]? with
  | some (.cells _ _ (lo,hi))=>decide (lo<=o)&&decide (o<hi)
  | _=>false
def Zc.put (h:Zc) (b o:Nat) (v:Value):Zc :=
  h.modify b fun
    | .cells c e f=> .cells (c.setIfInBounds o v) e f
    | x=>x
def Zc.puts (h:Zc) (b:Nat):Nat->List Value->Zc
  | _,[]=>h
  | o,v::vs=>(h.put b o v).puts b (o+1) vs
def Zc.has (h:Zc) (b:Nat):Nat->List Value->Prop
  | _,[]=>True
  | o,v::vs=>h.cell b o=some v/\h.has b (o+1) vs
def Zc.free (h:Zc) (b:Nat):Nat->Nat->Prop
  | _,0=>True
  | o,n+1=>((∃ u,h.cell b o=some u)/\h.froz b o=false)/\h.free b (o+1) n
structure Sl where
  ptr:Option Addr
  len:Nat
  cap:Nat
def Yc:Value->Bool
  | .agg _ | .tuple _=>false
  | _=>true
def Zz (b:Bool) (A B:Prop):Prop:=(b=true->A)/\(b=false->B)
def Zi (n:Int) (K:Int->Prop):Prop:=K n
def Yx (b:Bool) (K:Bool->Prop):Prop:=K b
def ldI (h:Zc) (b o:Nat) (k:IntKind) (K:Int->Prop):Prop:=∃ n,h.cell b o=some (.int k n)/\K n
def ldB (h:Zc) (b o:Nat) (K:Bool->Prop):Prop:=∃ x,h.cell b o=some (.bool x)/\K x
def ldS (h:Zc) (b o:Nat) (K:ByteArray->Prop):Prop:=∃ x,h.cell b o=some (.string x)/\K x
def ldP (h:Zc) (b o:Nat) (K:Option Addr->Prop):Prop:=∃ x,h.cell b o=some (.pointer x)/\K x
def ldL (h:Zc) (b o:Nat) (K:Sl->Prop):Prop:=∃ x:Sl,h.cell b o=some (.slice x.ptr x.len x.cap)/\K x
def ldM (h:Zc) (b o:Nat) (K:Option Nat->Prop):Prop:=∃ x,h.cell b o=some (.map x)/\K x
def ldV (h:Zc) (b o:Nat) (K:Value->Prop):Prop:=∃ x,h.cell b o=some x/\K x
def Ze (p:Option Addr) (K:Nat->Nat->Prop):Prop:=∃ b o,p=some ⟨b,o,none⟩/\K b o
def st (h:Zc) (b o:Nat) (v:Value) (K:Zc->Prop):Prop :=
  (∃ u,h.cell b o=some u)/\h.froz b o=false/\Yc v=true/\K (h.put b o v)
def sts (h:Zc) (b o:Nat) (vs:List Value) (K:Zc->Prop):Prop :=
  h.free b o vs.length/\vs.all Yc=true/\K (h.puts b o vs)
def ZcM (p:Option Addr) (l:Nat) (i:Int) (size:Nat) (K:Nat->Nat->Prop):Prop :=
  ∃ b o,p=some ⟨b,o,none⟩/\0<=i/\i<l/\K b (o+i.toNat*size)
def ZAN (l:Nat) (i:Int) (K:Nat->Prop):Prop:=0<=i/\i<l/\K i.toNat
def ZDP (s:ByteArray) (i:Int) (K:Int->Prop):Prop:=∃ x,0<=i/\s[i.toNat]?=some x/\K (UInt8.toNat x)
def Y6 (p:Prop) (K:Prop):Prop:=p/\K
def ZwA (p:Option Addr) (l m size:Nat):Option Addr:=if m=l then p else p.map (·.add (l*size))
def slc (p:Option Addr) (cap size:Nat) (lo hi mx:Int) (K:Sl->Prop):Prop :=
  0<=lo/\lo<=hi/\hi<=mx/\mx<=cap/\K ⟨ZwA p lo.toNat mx.toNat size,hi.toNat - lo.toNat,mx.toNat - lo.toNat⟩
def Zze (s:ByteArray) (lo hi:Int) (K:ByteArray->Prop):Prop :=
  0<=lo/\lo<=hi/\hi<=s.size/\K (s.extract lo.toNat hi.toNat)
def Zyy (k:IntKind) (x y:Int):Int:=k.wrap (x*2 ^ (min y.toNat k.bits))
def Zzg (k:IntKind) (x y:Int):Int:=x.fdiv (2 ^ (min y.toNat k.bits))
def ZyB (k:IntKind) (x y:Int):Int:=k.wrap (BitVec.toNat (BitVec.ofInt k.bits x &&& BitVec.ofInt k.bits y))
def orV (k:IntKind) (x y:Int):Int:=k.wrap (BitVec.toNat (BitVec.ofInt k.bits x ||| BitVec.ofInt k.bits y))
def ZNP (k:IntKind) (x y:Int):Int:=k.wrap (BitVec.toNat (BitVec.ofInt k.bits x ^^^ BitVec.ofInt k.bits y))
def ZMa (k:IntKind) (x y:Int):Int:=k.wrap (BitVec.toNat (BitVec.ofInt k.bits x &&& ~~~ BitVec.ofInt k.bits y))
def Zch (x y:ByteArray):Bool:=x.toList ==y.toList
def ZLT (x y:Int):Int:=if y<x then y else x
def ZAI (x y:Int):Int:=if y>x then y else x
def ZFA (x y:ByteArray) (K:ByteArray->Prop):Prop:=x.size+y.size<=9223372036854775807/\K (x++y)
def Zba (s:ByteArray):List Value:=s.data.toList.map fun b=>Value.int .u8 b.toNat
def rdS (x:Sl) (size:Nat) (h:Zc) (K:List Value->Prop):Prop :=
  (x.len=0/\K [])\/∃ b o l,x.ptr=some ⟨b,o,none⟩/\l.length=x.len*size/\h.has b o l/\K l
def Zbt (zs:List Value) (n:Nat):List Value:=(List.replicate n zs).flatten
def app (elem:TypeId) (size bytes:Nat) (zs:List Value) (s:Sl) (n:Nat) (new:List Value) (h:Zc) (K:Sl->Zc->Prop):Prop :=
  (s.len+n<=s.cap ->
    (new=[]/\K ⟨s.ptr,s.len+n,s.cap⟩ h) \/
    (∃ b o,s.ptr=some ⟨b,o,none⟩/\h.free b (o+s.len*size) new.length/\new.all Yc=true/\K ⟨s.ptr,s.len+n,s.cap⟩ (h.puts b (o+s.len*size) new))) /\
  (s.cap<s.len+n->(s.len+n)*bytes<=140737488355328/\s.len+n<=140737488355328/\rdS s size h fun old =>
    ∀ cap,s.len+n<=cap->cap<9223372036854775808 ->
      K ⟨some ⟨h.size,0,none⟩,s.len+n,cap⟩ (h.push (.cells (old++new++Zbt zs (cap - (s.len+n))).toArray elem)))
def mkS (elem:TypeId) (bytes:Nat) (zs:List Value) (l c:Int) (h:Zc) (K:Sl->Zc->Prop):Prop :=
  0<=l/\l<=c/\c*bytes<=281474976710656/\c<=281474976710656 /\
   K ⟨some ⟨h.size,0,none⟩,l.toNat,c.toNat⟩ (h.push (.cells (Zbt zs c.toNat).toArray elem))
def b2s (x:Sl) (h:Zc) (K:ByteArray->Prop):Prop :=
  (x.len=0/\K ByteArray.empty)\/∃ b o s,x.ptr=some ⟨b,o,none⟩/\s.size=x.len/\h.has b o (Zba s)/\K s
def s2b (elem:TypeId) (s:ByteArray) (h:Zc) (K:Sl->Zc->Prop):Prop :=
  s.size<9223372036854775808/\∀ cap,s.size<=cap->cap<9223372036854775808 ->
    K ⟨some ⟨h.size,0,none⟩,s.size,cap⟩ (h.push (.cells (Zba s++List.replicate (cap - s.size) (Value.int .u8 0)).toArray elem (cap,cap+1)))
def Zc.frz (h:Zc) (b:Nat):Zc :=
  h.modify b fun
    | .cells c e _=> .cells c e (c.size,c.size+1)
    | x=>x
def ZLU (p:Option Addr) (h:Zc) (K:Zc->Prop):Prop :=
  ∃ b o c e,p=some ⟨b,o,none⟩/\h[b]?=some (.cells c e (0,0))/\K (h.frz b)
def newC (h:Zc) (cells:List Value) (t:TypeId) (K:Nat->Zc->Prop):Prop:=K h.size (h.push (.cells cells.toArray t))
def ZsB (d:TypeDesc) (h:Zc) (m:Option Nat) (key:Value) (K:Option Value->Prop):Prop :=
  (m=none->K none)/\∀ b,m=some b->∃ es c r,h[b]?=some (.map es c)/\Instr.findNow d key es.toList 0=some r/\K (r.map (·.2))
def ZaE:List TypeDesc->List Value->Prop
  | [],[]=>True
  | d::ds,v::vs=>MapKept.IsKey d v/\ZaE ds vs
  | _,_=>False
def ZkK (ds:List TypeDesc) (v:Value):Prop:=∃ cs:List Value,v = .agg cs.toArray/\ZaE ds cs
def Zik:Value->Value->Bool
  | .int _ a,.int _ b=>a ==b
  | .string a,.string b=>Zch a b
  | .bool a,.bool b=>a ==b
  | _,_=>false
def Zfo:List Value->List Value->Bool
  | [],[]=>true
  | v::vs,w::ws=>bif Zik v w then Zfo vs ws else false
  | _,_=>false
def Zum (k:List Value):Value->Bool
  | .agg cs=>Zfo k cs.toList
  | _=>false
def ZlM (k:List Value):List MapEntry->Nat->Option (Nat × Value)
  | [],_=>none
  | e::es,i=>bif Zum k e.key then some (i,e.val) else ZlM k es (i+1)
def Zrk (ds:List TypeDesc) (h:Zc) (m:Option Nat) (key:List Value) (K:Option Value->Prop):Prop :=
  (m=none->K none)/\∀ b,m=some b->∃ es c,h[b]?=some (.map es c)/\(∀ x,x∈es.toList->ZkK ds x.key)/\K ((ZlM key es.toList 0).map (·.2))
def Znb (v:Value) (K:Bool->Prop):Prop:=(v = .nilIface/\K true)\/∃ t u,v = .iface t u/\K false
def ZsE (v:Value) (K:Bool->Prop):Prop:=(v = .nilFunc/\K true)\/∃ f a b,v = .func f a b/\K false
def asI (v:Value) (k:IntKind) (K:Int->Prop):Prop:=∃ n,v = .int k n/\K n
def asB (v:Value) (K:Bool->Prop):Prop:=∃ x,v = .bool x/\K x
def asS (v:Value) (K:ByteArray->Prop):Prop:=∃ x,v = .string x/\K x
def asP (v:Value) (K:Option Addr->Prop):Prop:=∃ x,v = .pointer x/\K x
def asL (v:Value) (K:Sl->Prop):Prop:=∃ x:Sl,v = .slice x.ptr x.len x.cap/\K x
def asM (v:Value) (K:Option Nat->Prop):Prop:=∃ x,v = .map x/\K x
def asT (v:Value) (t:TypeId) (K:Value->Prop):Prop:=∃ x,v = .iface t x/\K x
def Zij (h:Zc) (K:Nat->Zc->Prop):Prop:=K h.size (h.push (.map #[] 0))
def ZFP (es:Array MapEntry) (c:Nat) (key v:Value):Option (Nat × Value)->Obj
  | some (i,_)=> .map (es.modify i fun e=>{ e with key:=key,val:=v }) c
  | none=> .map (es.push { key:=key,val:=v,born:=c }) (c+1)
def Xr (d:TypeDesc) (h:Zc) (m:Option Nat) (key v:Value) (K:Zc->Prop):Prop :=
  ∃ b es c r,m=some b/\h[b]?=some (.map es c)/\(∀ x,x∈es.toList->MapKept.IsKey d x.key)/\Instr.findNow d key es.toList 0=some r/\K (h.setIfInBounds b (ZFP es c key v r))
def Zri (ds:List TypeDesc) (h:Zc) (m:Option Nat) (key:List Value) (v:Value) (K:Zc->Prop):Prop :=
  ∃ b es c,m=some b/\h[b]?=some (.map es c)/\(∀ x,x∈es.toList->ZkK ds x.key)/\K (h.setIfInBounds b (ZFP es c (.agg key.toArray) v (ZlM key es.toList 0)))
def ZMq (es:Array MapEntry) (c:Nat):Option (Nat × Value)->Obj
  | some (i,_)=> .map (es.eraseIdxIfInBounds i) c
  | none=> .map es c
def ZAJ (d:TypeDesc) (h:Zc) (m:Option Nat) (key:Value) (K:Zc->Prop):Prop :=
  (m=none->K h)/\∀ b,m=some b->∃ es c r,h[b]?=some (.map es c)/\Instr.findNow d key es.toList 0=some r/\K (h.setIfInBounds b (ZMq es c r))
def ZMs (h:Zc) (m:Option Nat) (K:Zc->Prop):Prop :=
  (m=none->K h)/\∀ b,m=some b->∃ es c,h[b]?=some (.map es c)/\K (h.setIfInBounds b (.map #[] c))
def ZMr (s:Sl) (zs:List Value) (h:Zc) (K:Zc->Prop):Prop :=
  (s.ptr=none/\K h)\/(s.len=0/\K h) \/
  ∃ b o,s.ptr=some ⟨b,o,none⟩/\h.free b o (Zbt zs s.len).length/\(Zbt zs s.len).all Yc=true/\K (h.puts b o (Zbt zs s.len))
def rgM (h:Zc) (m:Option Nat) (K:Nat->Zc->Prop):Prop :=
  (m=none->K h.size (h.push (.mapIter none 0 #[] 0)))/\∀ b,m=some b->∃ es c,h[b]?=some (.map es c)/\K h.size (h.push (.mapIter (some b) c #[] c))
def ZLR (h:Zc) (r:Nat) (T:Value->Value->Zc->Prop) (F:Prop):Prop :=
  (∃ s seen c,h[r]?=some (.mapIter none s seen c)/\F) \/
  ∃ bm since seen c0 es clock,h[r]?=some (.mapIter (some bm) since seen c0)/\h[bm]?=some (.map es clock)/\(∀ x,x∈es.toList->x.born<since)/\since<=c0 /\
    ((leftOf es seen).size=0->F)/\∀ e,e∈(leftOf es seen).toList->T e.key e.val (h.setIfInBounds r (.mapIter (some bm) since (seen.push e.born) clock))
def ZNX (h:Zc) (r:Nat) (K:Value->Value->Prop):Prop :=
  ∃ (bm since:Nat) (seen:Array Nat) (es:Array MapEntry) (clock:Nat) (e:MapEntry),h[r]?=some (.mapIter (some bm) since (seen.push e.born) clock)/\h[bm]?=some (.map es clock)/\e∈es.toList/\(es.toList.map (·.born)).Nodup/\K e.key e.val
def ZLW (v:Value) (f:Nat) (P:Prop):Prop:=v = .func (.func f) #[] #[]/\P
def exG {ρ:Type} (v:Value) (mk:ρ->Value) (K:ρ->Prop):Prop:=∃ r,v=mk r/\K r
def ZNS (h:Zc) (m:Option Nat) (K:Int->Prop):Prop :=
  (m=none->K 0)/\∀ b,m=some b->∃ es c,h[b]?=some (.map es c)/\K (es.size:Int)
def ZFy (x:Value) (h:Zc) (K:Value->Zc->Prop):Prop :=
  ∃ t b es c,x = .iface t (.map (some b))/\h[b]?=some (.map es c)/\K (.iface t (.map (some h.size))) (h.push (.map es c))
def ZtL {ρ:Type} (m:(ρ->Zc->Prop)->Zc->Prop) (h:Zc) (K:ρ->Prop):Prop :=
  ∃ r,m (fun r' h'=>r'=r/\h'=h) h/\K r
def Z9 (h:Zc):List (Nat × Nat × Value)->Prop
  | []=>True
  | (b,o,v)::r=>h.cell b o=some v/\Z9 h r
def Zqt (A B:Prop):Prop:=A/\B
def Zkt (r:Loop) (st:LoopState) (p:Option Code):Obj:= .loop { r with state:=st,pending:=p }
def Zt2 (h:Zc) (l:Nat) (r:Loop) (st:LoopState) (p:Option Code) (K:Prop):Prop:=h[l]?=some (Zkt r st p)/\K
def ZAw (h:Zc) (l:Nat) (o:Obj):Zc:=h.setIfInBounds l o
abbrev Yld:=Nat->List Value->(Bool->Zc->Prop)->Zc->Prop
def ZAk (r:Loop) (l:Nat) (n:Nat) (body:List Value->Zc->(Option Code->Zc->Prop)->Prop):Yld:=fun l' vs k h =>
  l'=l/\vs.length=n/\Zt2 h l r .ready none (
    body vs h fun p h'=>Zt2 h' l r .busy none (k p.isNone (ZAw h' l (Zkt r (if p.isNone then .ready else .done) p))))
def ZFC (r:Loop) (l:Nat) (h:Zc) (K:Zc->Prop):Prop:=Zt2 h l r .ready none (K (ZAw h l (Zkt r .busy none)))
def ZEY (n:Nat) (it:Yld->Nat->(Zc->Prop)->Zc->Prop) (body:Nat->Loop->List Value->Zc->(Option Code->Zc->Prop)->Prop) (h:Zc) (K:Option Code->Nat->Zc->Prop):Prop :=
  ∀ r:Loop,it (ZAk r (h.size+1) n (body (h.size+1) r)) (h.size+1)
    (fun h'=>∃ st p,st≠ .busy/\Zt2 h' (h.size+1) r st p (K p h.size (ZAw h' (h.size+1) (Zkt r .exhausted p)))) ((h.push (.deferred (some []))).push (Zkt r .ready none))
def ZFl (p:Option Code) (N:Prop) (X:Nat->Prop) (R:Prop):Prop:=match p with
  | none=>N
  | some (.exit id)=>X id
  | some .ret=>R
  | _=>False
def ZFI {ρ:Type} (mk:ρ->List Value) (vs:List Value) (K:ρ->Prop):Prop:=∃ r,vs=mk r/\K r
def ZEU (D:Nat) (h:Zc) (K:Zc->Prop):Prop:=h[D]?=some (.deferred (some []))/\K (ZAw h D (.deferred none))
def Zar {σ:Type} (body:(σ->Zc->Prop)->σ->Zc->Prop) (s:σ) (h:Zc):Prop :=
  ∃ (I:σ->Zc->Prop) (μ:σ->Zc->Nat),I s h/\∀ s h,I s h->body (fun s' h'=>I s' h'/\μ s' h'<μ s h) s h
def Zgf {σ:Type} (rest:σ->Zc->Prop) (pre:(σ->Zc->Prop)->Prop):Prop :=
  ∃ J:σ->Zc->Prop,(∀ s h,J s h->rest s h)/\pre J
def XL (d:Nat->Bool) (k:Nat):Nat->Bool:=fun i=>bif Nat.beq i k then true else d i
def Zyz {σ:Type} (S:((Nat->Bool)->σ->Zc->Prop)->(Nat->Bool)->σ->Zc->Prop) (F:(Nat->Bool)->σ->Zc->Prop) (h:Zc):Prop :=
  ∃ I:(Nat->Bool)->σ->Zc->Prop,(∃ s,I (fun _=>false) s h)/\(∀ d s h',I d s h'->S I d s h')/\∀ d s h',I d s h'->F d s h'
theorem Zds {σ:Type} {S:((Nat->Bool)->σ->Zc->Prop)->(Nat->Bool)->σ->Zc->Prop} {F:(Nat->Bool)->σ->Zc->Prop} {h:Zc} (I:(Nat->Bool)->σ->Zc->Prop) (s:σ)
    (h0:I (fun _=>false) s h) (hs:∀ d s h',I d s h'->S I d s h') (hf:∀ d s h',I d s h'->F d s h'):Zyz S F h:=⟨I,⟨s,h0⟩,hs,hf⟩
theorem Zv {σ:Type} {body:(σ->Zc->Prop)->σ->Zc->Prop} {s:σ} {h:Zc} (I:σ->Zc->Prop) (μ:σ->Zc->Nat)
    (h0:I s h) (hr:∀ s h,I s h->body (fun s' h'=>I s' h'/\μ s' h'<μ s h) s h):Zar body s h:=⟨I,μ,h0,hr⟩
theorem Z0 {σ:Type} {rest:σ->Zc->Prop} {pre:(σ->Zc->Prop)->Prop} (J:σ->Zc->Prop)
    (h1:∀ s h,J s h->rest s h) (h2:pre J):Zgf rest pre:=⟨J,h1,h2⟩
theorem Zqi {σ:Type} {rest:σ->Zc->Prop} {pre:(σ->Zc->Prop)->Prop} (h:pre rest):Zgf rest pre:=⟨rest,fun _ _ h=>h,h⟩
end Go.Fw
namespace Go.Fw
open Go
theorem Zgt {A B:Prop} (h:A):Zz true A B:=⟨fun _=>h,fun e=>by cases e⟩
theorem Ze7 {A B:Prop} (h:B):Zz false A B:=⟨fun e=>(by cases e),fun _=>h⟩
theorem Za {n:Int} {K:Int->Prop} (h:K n):Zi n K:=h
theorem Zh {n:Bool} {K:Bool->Prop} (h:K n):Yx n K:=h
theorem Zt {p:Prop} [Decidable p] {A B:Prop} (h1:p->A) (h2:¬ p->B):Zz (decide p) A B :=
  ⟨fun e=>h1 (of_decide_eq_true e),fun e=>h2 (of_decide_eq_false e)⟩
theorem Zn {b:Bool} {A B:Prop} (e:b=true) (h:A):Zz b A B:=by subst e;exact Zgt h
theorem Zm {b:Bool} {A B:Prop} (e:b=false) (h:B):Zz b A B:=by subst e;exact Ze7 h
theorem Yt {n:Int} (h0 : -9223372036854775808<=n) (h1:n<=9223372036854775807):IntKind.wrap .i64 n=n:=by
  unfold IntKind.wrap
  have hb:(2:Int) ^ IntKind.i64.bits=18446744073709551616:=by decide
  have hb':(2:Int) ^ (IntKind.i64.bits - 1)=9223372036854775808:=by decide
  have hs:IntKind.i64.signed=true:=rfl
  simp only [hb,hb',hs,Aqa]
  rcases Int.lt_or_le n 0 with h | h
  ·have:n % 18446744073709551616=n+18446744073709551616:=by omega
   rw [this,if_pos (by simp;omega)]
   omega
  ·have:n % 18446744073709551616=n:=by omega
   rw [this,if_neg (by simp;omega)]
theorem ZqI {n:Int} (h0:0<=n) (h1:n<256):IntKind.wrap .u8 n=n:=by
  unfold IntKind.wrap
  have hb:(2:Int) ^ IntKind.u8.bits=256:=by decide
  have hs:IntKind.u8.signed=false:=rfl
  simp only [hb,hs,Aqb,Aqc,if_false]
  omega
theorem ZvW (n:Int):IntKind.wrap .u8 n=n % 256:=by
  unfold IntKind.wrap
  have hb:(2:Int) ^ IntKind.u8.bits=256:=by decide
  have hs:IntKind.u8.signed=false:=rfl
  simp only [hb,hs,Aqb,Aqc,if_false]
theorem Zx8 {h:Zc} {b o:Nat} {v:Value} (hc:h.cell b o=some v):b<h.size:=by
  unfold Zc.cell at hc
  rcases Aqd b h.size with hl | hl
  ·exact hl
  ·rw [Aqe hl] at hc;cases hc
theorem Zno {h h':Zc} {b:Nat} (he:h'[b]?=h[b]?) (o:Nat):h'.cell b o=h.cell b o:=by
  unfold Zc.cell;rw [he]
theorem Zp0 {h h':Zc} {b:Nat} (he:h'[b]?=h[b]?):∀ {l:List Value} {o:Nat},h.has b o l->h'.has b o l
  | [],_,_=>trivial
  | _::_,_,⟨h1,h2⟩=>⟨(Zno he _).trans h1,Zp0 he h2⟩
theorem ZhH {h:Zc} {b:Nat}:∀ {l:List Value} {o i:Nat} {v:Value},h.has b o l->l[i]?=some v->h.cell b (o+i)=some v
  | [],_,_,_,_,hv=>by simp at hv
  | x::l,o,0,v,⟨h1,_⟩,hv=>by simp at hv;subst hv;exact h1
  | x::l,o,i+1,v,⟨_,h2⟩,hv=>by
    have:=ZhH (i:=i) (v:=v) h2 (by simpa using hv)
    rw [show o+(i+1)=o+1+i from by omega];exact this
theorem ZsM {h:Zc} {b:Nat}:∀ {l:List Value} {o:Nat},(∀ i v,l[i]?=some v->h.cell b (o+i)=some v)->h.has b o l
  | [],_,_=>trivial
  | x::l,o,hh=>⟨by have:=hh 0 x (by simp);simpa using this,ZsM fun i v hv=>by have:=hh (i+1) v (by simpa using hv);rw [show o+1+i=o+(i+1) from by omega];exact this⟩
theorem ZAQ {h:Zc} {b o:Nat} {l:List Value} (hh:h.has b o l) (hne:l≠[]):b<h.size:=by
  cases l with
  | nil=>exact absurd rfl hne
  | cons v l=>exact Zx8 hh.1
theorem ZDh {h:Zc} {b o:Nat} {l:List Value} (hh:h.has b o l) (k n:Nat):h.has b (o+k) ((l.drop k).take n):=by
  refine ZsM fun i v hv=>?_
  rw [Aqf] at hv
  split at hv
  ·rw [Aqg] at hv
   have:=ZhH hh hv
   rw [Aqh];exact this
  ·cases hv
theorem Zj5 {h:Zc} {b o:Nat} {c:Array Value} {e:TypeId} {f:Nat × Nat} (hb:h[b]?=some (.cells c e f)):h.cell b o=c[o]?:=by
  unfold Zc.cell;rw [hb]
theorem ZdR {h:Zc} {b o:Nat} {c:Array Value} {e:TypeId} {f:Nat × Nat} {l:List Value} (hb:h[b]?=some (.cells c e f)) (hl:∀ i v,l[i]?=some v->c[o+i]?=some v):h.has b o l :=
  ZsM fun i v hv=>by rw [Zj5 hb];exact hl i v hv
theorem Zj1 {h:Zc} {b:Nat} {c:Array Value} {e:TypeId} (hb:h[b]?=some (.cells c e (0,0))):∀ {n o:Nat},o+n<=c.size->h.free b o n
  | 0,_,_=>trivial
  | n+1,o,hle=>by
    have hlt:o<c.size:=by omega
    refine ⟨⟨⟨c[o],by rw [Zj5 hb];simp [hlt]⟩,?_⟩,Zj1 hb (by omega)⟩
    unfold Zc.froz;rw [hb];simp
theorem ZpG {h:Zc} {b o:Nat} {v:Value} {c:Array Value} {e:TypeId} {f:Nat × Nat} (hb:h[b]?=some (.cells c e f)):(h.put b o v)[b]?=some (.cells (c.setIfInBounds o v) e f):=by
  unfold Zc.put
  rw [Aqi,if_pos rfl,hb]
  rfl
theorem ZpF {h:Zc} {b o k:Nat} {v:Value} (hk:k≠b):(h.put b o v)[k]?=h[k]?:=by
  unfold Zc.put
  rw [Aqi,if_neg (Ne.symm hk)]
theorem ZkG {h:Zc} {b o:Nat} {v:Value}:(h.put b o v).size=h.size:=by
  unfold Zc.put;simp
theorem Zjb {h:Zc} {b:Nat}:∀ {vs:List Value} {o:Nat},(h.puts b o vs).size=h.size
  | [],_=>rfl
  | v::vs,o=>by unfold Zc.puts;rw [Zjb,ZkG]
theorem ZjO {b k:Nat} (hk:k≠b):∀ {vs:List Value} {h:Zc} {o:Nat},(h.puts b o vs)[k]?=h[k]?
  | [],_,_=>rfl
  | v::vs,h,o=>by unfold Zc.puts;rw [ZjO hk,ZpF hk]
theorem ZmV {b:Nat} {e:TypeId} {f:Nat × Nat}:∀ {vs:List Value} {h:Zc} {o:Nat} {c:Array Value},h[b]?=some (.cells c e f)->o+vs.length<=c.size ->
    ∃ c',(h.puts b o vs)[b]?=some (.cells c' e f)/\c'.toList=c.toList.take o++vs++c.toList.drop (o+vs.length)
  | [],h,o,c,hb,_=>⟨c,hb,by simp⟩
  | v::vs,h,o,c,hb,hle=>by
    simp only [Aqj] at hle
    obtain ⟨c',hc',hl⟩:=ZmV (vs:=vs) (h:=h.put b o v) (o:=o+1) (ZpG hb) (by simp;omega)
    refine ⟨c',hc',?_⟩
    rw [hl]
    have hlt:o<c.toList.length:=by simp;omega
    simp only [Aqk,Aqj]
    rw [Aql (by simp;omega),Aqm (by omega),Aqn (by omega)]
    simp
    omega
theorem Zzn {h:Zc} {x:Obj} {k:Nat} (hk:k<h.size):(h.push x)[k]?=h[k]?:=by
  rw [Array.getElem?_push,if_neg (by omega)]
theorem Zjc {h:Zc} {x:Obj}:(h.push x)[h.size]?=some x:=by simp
structure Ext (h h':Zc):Prop where
  size:h.size<=h'.size
  old:∀ k,k<h.size->h'[k]?=h[k]?
theorem Ext.refl (h:Zc):Ext h h:=⟨Aqo _,fun _ _=>rfl⟩
theorem Ext.trans {a b c:Zc} (h:Ext a b) (h':Ext b c):Ext a c :=
  ⟨Aqp h.size h'.size,fun k hk=>(h'.old k (Aqq hk h.size)).trans (h.old k hk)⟩
theorem Ext.push (h:Zc) (x:Obj):Ext h (h.push x):=⟨by simp,fun _ hk=>Zzn hk⟩
structure Upd (S:Nat->Prop) (h h':Zc):Prop where
  size:h.size<=h'.size
  old:∀ k,k<h.size->¬ S k->h'[k]?=h[k]?
theorem Upd.refl (S:Nat->Prop) (h:Zc):Upd S h h:=⟨Aqo _,fun _ _ _=>rfl⟩
theorem Upd.trans {S:Nat->Prop} {a b c:Zc} (h:Upd S a b) (h':Upd S b c):Upd S a c :=
  ⟨Aqp h.size h'.size,fun k hk hs=>(h'.old k (Aqq hk h.size) hs).trans (h.old k hk hs)⟩
theorem Upd.mono {S T:Nat->Prop} {a b:Zc} (h:Upd S a b) (hs:∀ k,k<a.size->S k->T k):Upd T a b :=
  ⟨h.size,fun k hk hn=>h.old k hk fun hS=>hn (hs k hk hS)⟩
theorem Ext.upd {a b:Zc} (h:Ext a b) (S:Nat->Prop):Upd S a b:=⟨h.size,fun k hk _=>h.old k hk⟩
theorem Upd.ext {S:Nat->Prop} {a b:Zc} (h:Upd S a b) (hs:∀ k,k<a.size->¬ S k):Ext a b:=⟨h.size,fun k hk=>h.old k hk (hs k hk)⟩
theorem Upd.put (h:Zc) (b o:Nat) (v:Value):Upd (· = b) h (h.put b o v):=⟨by rw [ZkG];exact Aqo _,fun k _ hk=>ZpF hk⟩
theorem Upd.puts (h:Zc) (b o:Nat) (vs:List Value):Upd (· = b) h (h.puts b o vs):=⟨by rw [Zjb];exact Aqo _,fun k _ hk=>ZjO hk⟩
theorem ZtT {h:Zc} {cells:List Value} {t:TypeId} {K:Nat->Zc->Prop} (hk:K h.size (h.push (.cells cells.toArray t))):newC h cells t K:=hk
theorem Ext.then {a b c:Zc} {S:Nat->Prop} (h:Ext a b) (h':Upd S b c) (hs:∀ k,S k->a.size<=k):Ext a c :=
  ⟨Aqp h.size h'.size,fun k hk=>(h'.old k (Aqq hk h.size) fun hS=>by have:=hs k hS;omega).trans (h.old k hk)⟩
def slV (s:Sl):Value:= .slice s.ptr s.len s.cap
def Sl.blk (s:Sl):Option Nat:=s.ptr.map (·.block)
def bv (x:UInt8):Value:= .int .u8 x.toNat
structure Row (h:Zc) (s:Sl) (size:Nat) (vs:List Value):Prop where
  len:vs.length=s.len*size
  cap:s.len<=s.cap
  big:s.cap<9223372036854775808
  at_:s.len=0\/∃ b o,s.ptr=some ⟨b,o,none⟩/\h.has b o vs
abbrev Zyv (h:Zc) (s:Sl) (l:List UInt8):Prop:=Row h s 1 (l.map bv)
theorem Row.nil_of {h:Zc} {s:Sl} {size:Nat} {vs:List Value} (hr:Row h s size vs) (h0:s.len=0):vs=[] :=
  Aqr (by rw [hr.len,h0,Aqs])
theorem Row.congr {h h':Zc} {s:Sl} {size:Nat} {vs:List Value} (hr:Row h s size vs) (he:∀ b o,s.ptr=some ⟨b,o,none⟩->vs≠[]->b<h.size->h'[b]?=h[b]?):Row h' s size vs:=by
  refine ⟨hr.len,hr.cap,hr.big,?_⟩
  rcases hr.at_ with h0 | ⟨b,o,hp,hh⟩
  ·exact .inl h0
  ·rcases Classical.em (vs=[]) with hvs | hvs
   ·subst hvs;exact .inr ⟨b,o,hp,trivial⟩
   ·exact .inr ⟨b,o,hp,Zp0 (he b o hp hvs (ZAQ hh hvs)) hh⟩
theorem Row.ext {h h':Zc} {s:Sl} {size:Nat} {vs:List Value} (hr:Row h s size vs) (he:Ext h h'):Row h' s size vs :=
  hr.congr fun b _ _ _ hb=>he.old b hb
theorem Zyv.length {h:Zc} {s:Sl} {l:List UInt8} (hb:Zyv h s l):s.len=l.length:=by
  have:=hb.len;simp at this;omega
theorem Row.at1 {h:Zc} {s:Sl} {vs:List Value} (hr:Row h s 1 vs) {i:Nat} {v:Value} (hv:vs[i]?=some v) :
    ∃ b o,s.ptr=some ⟨b,o,none⟩/\i<s.len/\h.cell b (o+i)=some v:=by
  have hlt:i<vs.length:=by
    rcases Aqd i vs.length with h | h
    ·exact h
    ·rw [Aqt h] at hv;cases hv
  rcases hr.at_ with h0 | ⟨b,o,hp,hh⟩
  ·rw [hr.nil_of h0] at hv;simp at hv
  ·exact ⟨b,o,hp,by have:=hr.len;omega,ZhH hh hv⟩
theorem Row.idx {h:Zc} {s:Sl} {vs:List Value} (hr:Row h s 1 vs) {i:Int} {n:Nat} (hi:i=n) {v:Value} (hv:vs[n]?=some v) {K:Nat->Nat->Prop}
    (hk:∀ b o,s.ptr=some ⟨b,o,none⟩->h.cell b (o+n)=some v->K b (o+n)):ZcM s.ptr s.len i 1 K:=by
  obtain ⟨b,o,hp,hlt,hc⟩:=hr.at1 hv
  subst hi
  refine ⟨b,o,hp,by omega,by omega,?_⟩
  rw [Aqu,Aqv]
  exact hk b o hp hc
theorem Zyv.idx {h:Zc} {s:Sl} {l:List UInt8} (hr:Zyv h s l) {i:Int} {n:Nat} (hi:i=n) {x:UInt8} (hv:l[n]?=some x) {K:Int->Prop} (hk:K x.toNat) :
    ZcM s.ptr s.len i 1 fun b o=>ldI h b o .u8 K :=
  Row.idx hr hi (v:=bv x) (by simp [hv]) fun _ _ _ hc=>⟨_,hc,hk⟩
theorem Row.rd {h:Zc} {s:Sl} {size:Nat} {vs:List Value} (hr:Row h s size vs) {K:List Value->Prop} (hk:K vs):rdS s size h K:=by
  rcases hr.at_ with h0 | ⟨b,o,hp,hh⟩
  ·rw [hr.nil_of h0] at hk;exact .inl ⟨h0,hk⟩
  ·exact .inr ⟨b,o,vs,hp,hr.len,hh,hk⟩
theorem Row.nil (h:Zc) (size:Nat):Row h ⟨none,0,0⟩ size []:=⟨by simp,Aqo _,by decide,.inl rfl⟩
theorem Row.slc {h:Zc} {s:Sl} {vs:List Value} (hr:Row h s 1 vs) {lo hi mx:Int} {a b m:Nat} (ea:lo=a) (eb:hi=b) (em:mx=m) (h1:a<=b) (h2:b<=s.len) (h2':b<=m) (h3:m<=s.cap) {K:Sl->Prop}
    (hk:∀ s',Row h s' 1 ((vs.drop a).take (b - a))->s'.len=b - a->s'.cap=m - a->(∀ k,s'.blk=some k->s.blk=some k)->K s'):Fw.slc s.ptr s.cap 1 lo hi mx K:=by
  subst ea eb em
  refine ⟨by omega,by omega,by omega,by omega,?_⟩
  have hl:=hr.len
  refine hk _ ⟨?_,?_,?_,?_⟩ ?_ ?_ ?_
  ·simp;omega
  ·simp;omega
  ·have:=hr.big;simp;omega
  ·simp only [Aqu]
   rcases Aqw (b - a) with h0 | h0
   ·exact .inl h0
   ·right
    rcases hr.at_ with h9 | ⟨bb,o,hp,hh⟩
    ·omega
    ·refine ⟨bb,o+a,?_,ZDh hh a (b - a)⟩
     unfold ZwA
     rw [if_neg (by omega),hp]
     simp only [Aqx,Aqv]
     unfold Addr.add
     split
     ·rename_i h;subst h;rfl
     ·rfl
  ·simp
  ·simp
  ·intro k
   unfold Sl.blk ZwA
   split
   ·exact id
   ·cases s.ptr with
    | none=>simp
    | some x=>simp [Addr.add];split<;>exact id
structure Own (h:Zc) (base:Nat) (s:Sl) (size:Nat) (vs:List Value):Prop where
  len:vs.length=s.len*size
  cap:s.len<=s.cap
  big:s.cap<9223372036854775808
  at_:(s.ptr=none/\s.cap=0)\/∃ b c e,s.ptr=some ⟨b,0,none⟩/\base<=b/\h[b]?=some (.cells c e (0,0))/\c.size=s.cap*size/\vs=c.toList.take (s.len*size)
theorem Own.row {h:Zc} {base:Nat} {s:Sl} {size:Nat} {vs:List Value} (ho:Own h base s size vs):Row h s size vs:=by
  refine ⟨ho.len,ho.cap,ho.big,?_⟩
  rcases ho.at_ with ⟨_,h0⟩ | ⟨b,c,e,hp,_,hb,hc,hv⟩
  ·exact .inl (by have:=ho.cap;omega)
  ·right
   refine ⟨b,0,hp,ZdR hb fun i v hi=>?_⟩
   rw [hv,Aqf] at hi
   split at hi
   ·simpa using hi
   ·cases hi
theorem Own.nil (h:Zc) (base size:Nat):Own h base ⟨none,0,0⟩ size []:=⟨by simp,Aqo _,by decide,.inl ⟨rfl,rfl⟩⟩
theorem Own.congr {h h':Zc} {base:Nat} {s:Sl} {size:Nat} {vs:List Value} (ho:Own h base s size vs) (he:∀ b,s.blk=some b->b<h.size->base<=b->h'[b]?=h[b]?):Own h' base s size vs:=by
  refine ⟨ho.len,ho.cap,ho.big,?_⟩
  rcases ho.at_ with h0 | ⟨b,c,e,hp,hb,hc,hr⟩
  ·exact .inl h0
  ·refine .inr ⟨b,c,e,hp,hb,?_,hr⟩
   rw [he b (by simp [Sl.blk,hp]) ?_ hb]
   ·exact hc
   ·rcases Aqd b h.size with hl | hl
    ·exact hl
    ·rw [Aqe hl] at hc;cases hc
theorem Own.base {h:Zc} {base base':Nat} {s:Sl} {size:Nat} {vs:List Value} (ho:Own h base s size vs) (hb:base'<=base):Own h base' s size vs:=by
  refine ⟨ho.len,ho.cap,ho.big,?_⟩
  rcases ho.at_ with h0 | ⟨b,c,e,hp,hb',hr⟩
  ·exact .inl h0
  ·exact .inr ⟨b,c,e,hp,by omega,hr⟩
theorem Own.lt {h:Zc} {base:Nat} {s:Sl} {size:Nat} {vs:List Value} (ho:Own h base s size vs) {b:Nat} (hb:s.blk=some b):base<=b/\b<h.size:=by
  rcases ho.at_ with ⟨hp,_⟩ | ⟨b',c,e,hp,hb',hr,_⟩
  ·simp [Sl.blk,hp] at hb
  ·simp [Sl.blk,hp] at hb
   subst hb
   refine ⟨hb',?_⟩
   rcases Aqd b' h.size with hl | hl
   ·exact hl
   ·rw [Aqe hl] at hr;cases hr
theorem Zie (zs:List Value) (n:Nat):(Zbt zs n).length=n*zs.length:=by simp [Zbt]
theorem Own.app {h:Zc} {base:Nat} {s:Sl} {size bytes n:Nat} {vs new zs:List Value} {elem:TypeId} {K:Sl->Zc->Prop}
    (ho:Own h base s size vs) (hnew:new.length=n*size) (hone:new.all Yc=true) (hz:zs.length=size) (hb:(s.len+n)*bytes<=140737488355328) (hl:s.len+n<=140737488355328) (hbase:base<=h.size)
    (hk:∀ s' h',Own h' base s' size (vs++new)->s'.len=s.len+n->Upd (fun k=>s.blk=some k) h h'->(s'.blk=s.blk\/s'.blk=some h.size)->K s' h') :
    Fw.app elem size bytes zs s n new h K:=by
  have hlen:=ho.len
  have hcap:=ho.cap
  refine ⟨fun hroom=>?_,fun hgt=>⟨hb,hl,ho.row.rd fun cap h1 h2=>?_⟩⟩
  ·rcases ho.at_ with ⟨hp,h0⟩ | ⟨b,c,e,hp,hbb,hblk,hc,hv⟩
   ·left
    have hn:n=0:=by omega
    have hnil:new=[]:=Aqr (by rw [hnew,hn,Aqs])
    refine ⟨hnil,hk _ _ ?_ rfl (Upd.refl _ _) (.inl rfl)⟩
    refine ⟨by simp [hnil,hn,hlen],hroom,ho.big,.inl ⟨hp,h0⟩⟩
   ·right
    have hle:s.len*size+new.length<=c.size:=by
      rw [hc,hnew,<- Aqy];exact Aqz _ hroom
    refine ⟨b,0,hp,Zj1 hblk (by simpa using hle),hone,?_⟩
    obtain ⟨c',hc',hl'⟩:=ZmV (vs:=new) (o:=0+s.len*size) hblk (by simpa using hle)
    refine hk _ _ ⟨?_,hroom,ho.big,.inr ⟨b,c',e,hp,hbb,hc',?_,?_⟩⟩ rfl ((Upd.puts h b _ new).mono fun k _ hk=>by subst hk;simp [Sl.blk,hp]) (.inl rfl)
    ·simp [hlen,hnew,Aqy]
    ·rw [<- hc,<- Awa,hl']
     simp
     omega
    ·rw [hl']
     simp only [Awb]
     rw [Aqy,<- hnew,Awc (by simp;omega),Awd (by simp;omega),hv]
  ·refine hk _ _ ⟨by simp [hlen,hnew,Aqy],h1,h2,.inr ⟨h.size,_,elem,rfl,hbase,Zjc,?_,?_⟩⟩ rfl ((Ext.push h _).upd _) (.inr rfl)
   ·simp only [List.size_toArray,Awe,Zie,hz,hlen,hnew]
    rw [<- Aqy,<- Aqy]
    congr 1
    omega
   ·simp only []
    rw [Awc (by simp [hlen,hnew,Aqy]),Awd (by simp [hlen,hnew,Aqy])]
theorem Own.newC {h:Zc} {cells:List Value} {t:TypeId} {size n:Nat} (hl:cells.length=n*size) (hn:n<9223372036854775808) :
    Own (h.push (.cells cells.toArray t)) h.size ⟨some ⟨h.size,0,none⟩,n,n⟩ size cells :=
  ⟨hl,Aqo _,hn,.inr ⟨h.size,_,t,rfl,Aqo _,Zjc,by simp [hl],by simp;rw [Awd (by omega)]⟩⟩
theorem ZMk {h:Zc} {cells:List Value} {t:TypeId} {K:Nat->Zc->Prop} (l:List UInt8) (n:Nat) (hc:cells=l.map bv) (hn:l.length=n) (hlt:n<9223372036854775808)
    (hk:∀ b h',Zyv h' ⟨some ⟨b,0,none⟩,n,n⟩ l->Ext h h'->b=h.size->K b h'):newC h cells t K:=by
  subst hc
  exact hk _ _ (Own.newC (h:=h) (cells:=l.map bv) (t:=t) (size:=1) (n:=n) (by simp [hn]) hlt).row (Ext.push h _) rfl
end Go.Fw
namespace Go.Proofs.YtpjbjdheeemdiaaGreatDoor
open Go Go.Fw
structure ZaN (h:Zc):Prop where
  utf:∀ w:World,w.heap=h->Lib.Utf8Tabs 0 1 w
  pow:∀ w:World,w.heap=h->Lib.TabIs Tryz.prog w "internal/strconv.uint64pow10" .u64 Lib.pow10Tab
  range:∃ t p,h.cell 5 0=some (.iface t p)
  syn:∃ t p,h.cell 4 0=some (.iface t p)
  most:∃ m,h.cell 2 0=some (.int .i64 m)
abbrev Zk (l:List UInt8):ByteArray:=⟨l.toArray⟩
def X0 (s:ByteArray) (c:Int) (K:Int->HP) (h:Zc):Prop:=K (Lib.indexByte s.data.toList c.toNat.toUInt8) h
def Z6 (s:ByteArray) (K:Bool->HP) (h:Zc):Prop:=ZaN h/\s.size<=9223372036854775807/\∀ h',Ext h h'->K (Lib.validD s.data.toList) h'
def Y9 (s:ByteArray) (K:Int->HP) (h:Zc):Prop:=s.size<9223372036854775807/\∀ h',Ext h h'->K (Lib.runeCount s) h'
def ZcY (n:Int) (K:ByteArray->HP) (h:Zc):Prop:=ZaN h/\ -9223372036854775808<=n/\n<=9223372036854775807/\∀ h',Ext h h'->K (Zk (Lib.itoa n)) h'
def Zek (s:ByteArray) (K:Int->Value->HP) (h:Zc):Prop:=ZaN h/\s.size<=281474976710656 /\
  match Lib.atoiAll s.data.toList with
  | .ok v=>∀ h',Ext h h'->K v .nilIface h'
  | .range=>∀ h' t p,Ext h h'->K (Lib.atoiSat s.data.toList) (.iface t p) h'
  | _=>∀ h' t p,Ext h h'->K 0 (.iface t p) h'
def Yl (p:Option Addr) (K:HP) (h:Zc):Prop :=
  ∃ b c v T,p=some ⟨b,0,none⟩/\h[b]?=some (.cells #[c,v] T (0,0))/\(T=188\/T=190) /\
    ((c = .pointer none/\K (h.put b 0 (.pointer (some ⟨b,0,none⟩))))\/(c = .pointer (some ⟨b,0,none⟩)/\K h))
def Zae (p:Option Addr) (K:ByteArray->HP) (h:Zc):Prop :=
  ∃ (b:Nat) (c:Value) (x:Sl) (T:TypeId),p=some ⟨b,0,none⟩/\h[b]?=some (.cells #[c,.slice x.ptr x.len x.cap] T (0,0)) /\
    ((x.ptr=none/\x.len=0/\x.cap=0/\K ByteArray.empty h) \/
     ∃ (g:Nat) (s:ByteArray) (cur:Array Value) (fz:Nat × Nat),x.ptr=some ⟨g,0,none⟩/\g≠b/\x.len=s.size/\s.size≠0/\x.len<=x.cap/\x.cap<=cur.size/\x.cap<9223372036854775808/\h[g]?=some (.cells cur 5 fz)/\h.has g 0 (Zba s) /\
       ∀ h',Upd (· = g) h h'->K s h')
end Go.Proofs.YtpjbjdheeemdiaaGreatDoor
