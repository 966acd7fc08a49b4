/- The words in which the functions' models are written: memory as an array of blocks, and what one step of a function asks of it and leaves. Plain definitions, no program. -/
import GoSem.Core.World
import GoSem.Core.View
import GoSem.Core.Lib
import GoSem.Instr.Lookup
import Derived.MapKept
import Derived.Laws.IdiomRangeMap
import Derived.Test.YtpjbjdheeemdiaaGreatDoorProg
import Derived.Shelf.Unicode.DecodeSlow
import Derived.Lib.Bytealg
import Derived.Lib.RuneCount
import Derived.Lib.ItoaNum
import Derived.Lib.AtoiAll
import Derived.Lib.ValidU
import Derived.Lib.LaidTab
import Derived.Lib.Case
import Derived.Lib.IndexMore
import Derived.Lib.TrimByte
import Derived.Lib.Repeat
set_option linter.unusedVariables false
set_option linter.unusedSimpArgs false
namespace Go
abbrev Aqa:=@Bool.true_and
abbrev Aqb:=@Bool.false_and
abbrev Aqc:=@Bool.false_eq_true
abbrev Aqd:=@Nat.lt_or_ge
abbrev Aqe:=@Array.getElem?_eq_none
abbrev Aqf:=@List.getElem?_take
abbrev Aqg:=@List.getElem?_drop
abbrev Aqh:=@Nat.add_assoc
abbrev Aqi:=@Array.getElem?_modify
abbrev Aqj:=@List.length_cons
abbrev Aqk:=@Array.toList_setIfInBounds
abbrev Aql:=@List.take_succ_eq_append_getElem
abbrev Aqm:=@List.take_set_of_le
abbrev Aqn:=@List.drop_set_of_lt
abbrev Aqo:=@Nat.le_refl
abbrev Aqp:=@Nat.le_trans
abbrev Aqq:=@Nat.lt_of_lt_of_le
abbrev Aqr:=@List.eq_nil_of_length_eq_zero
abbrev Aqs:=@Nat.zero_mul
abbrev Aqt:=@List.getElem?_eq_none
abbrev Aqu:=@Int.toNat_natCast
abbrev Aqv:=@Nat.mul_one
abbrev Aqw:=@Nat.eq_zero_or_pos
abbrev Aqx:=@Option.map_some
abbrev Aqy:=@Nat.add_mul
abbrev Aqz:=@Nat.mul_le_mul_right
abbrev Awa:=@Array.length_toList
abbrev Awb:=@Nat.zero_add
abbrev Awc:=@List.take_append_of_le_length
abbrev Awd:=@List.take_of_length_le
abbrev Awe:=@List.length_append
abbrev Awf:=@Option.isSome_none
abbrev Awg:=@Nat.eq_of_beq_eq_true
abbrev Awh:=@Option.some.injEq
abbrev Awi:=@Nat.ne_of_beq_eq_false
abbrev Awj:=@Array.getElem?_setIfInBounds_ne
abbrev Awk:=@Sem.run_bind
abbrev Awl:=@Result.andThen_ok
abbrev Awm:=@List.all_cons
abbrev Awn:=@Bool.and_eq_true
abbrev Awo:=@List.map_cons
abbrev Awp:=@Sem.run_pure
abbrev Awq:=@List.foldl_cons
abbrev Awr:=@List.mem_cons
abbrev Aws:=@List.mem_cons_of_mem
abbrev Awt:=@Nat.le_of_ble_eq_true
abbrev Awu:=@List.getElem?_append_left
abbrev Awv:=@Nat.mod_eq_of_lt
abbrev Aww:=@List.getElem?_append_right
abbrev Awx:=@Nat.succ_mul
abbrev Awy:=@List.ext_getElem?
abbrev Awz:=@List.getElem?_map
abbrev Axa:=@List.mapM_cons
abbrev Axb:=@Array.mapM_eq_mapM_toList
abbrev Axc:=@List.all_eq_true
abbrev Axd:=@Option.isSome_iff_exists
abbrev Axe:=@Array.ext'
abbrev Axf:=@Int.toNat_of_nonneg
abbrev Axg:=@Nat.mul_assoc
abbrev Axh:=@List.getElem?_toArray
abbrev Axi:=@List.getElem?_cons_zero
abbrev Axj:=@List.getElem?_cons_succ
abbrev Axk:=@Nat.add_zero
abbrev Axl:=@Bool.not_false
abbrev Axm:=@List.forIn_cons
abbrev Axn:=@Nat.one_ne_zero
abbrev Axo:=@Option.getD_some
abbrev Axp:=@List.drop_drop
abbrev Axq:=@List.mem_of_getElem?
abbrev Axr:=@Array.getElem?_toList
abbrev Axs:=@List.forall_mem_cons
abbrev Axt:=@Array.getD_eq_getD_getElem?
abbrev Axu:=@List.mem_singleton
abbrev Axv:=@List.mem_filter
abbrev Axw:=@Option.isNone_iff_eq_none
abbrev Axx:=@Nat.beq_refl
abbrev Axy:=@List.cons.injEq
abbrev Axz:=@List.mem_append
abbrev Aya:=@Array.getElem?_append
abbrev Ayb:=@List.getElem?_eq_getElem
abbrev Ayc:=@Option.map_eq_some_iff
abbrev Ayd:=@Array.getElem?_eq_some_iff
abbrev Aye:=@List.suffix_cons
abbrev Ayf:=@List.dropWhile_suffix
abbrev Ayg:=@List.suffix_refl
abbrev Ayh:=@List.exists_cons_of_ne_nil
abbrev Ayi:=@List.dropWhile_cons_of_pos
abbrev Ayj:=@List.dropWhile_cons_of_neg
abbrev Ayk:=@Nat.zero_le
abbrev Ayl:=@List.drop_eq_getElem_cons
abbrev Aym:=@List.drop_length
abbrev Ayn:=@List.take_succ_cons
abbrev Ayo:=@List.length_take
abbrev Ayp:=@List.cons_append
abbrev Ayq:=@List.nil_append
abbrev Ayr:=@Bool.and_true
abbrev Ays:=@List.length_nil
abbrev Ayt:=@List.append_nil
abbrev Ayu:=@List.take_add_one
abbrev Ayv:=@List.getElem?_set_self
abbrev Ayw:=@List.mem_map
abbrev Ayx:=@List.length_map
abbrev Ayy:=@List.map_append
abbrev Ayz:=@List.append_assoc
abbrev Aza:=@List.dropWhile_append_of_pos
abbrev Azb:=@Nat.le_succ
abbrev Azc:=@Nat.lt_succ_self
abbrev Azd:=@List.flatMap_cons
abbrev Aze:=@List.flatMap_append
abbrev Azf:=@Nat.mul_comm
abbrev Azg:=@Bool.and_assoc
abbrev Azh:=@List.drop_of_length_le
abbrev Azi:=@List.take_append_drop
abbrev Azj:=@List.length_drop
abbrev Azk:=@List.not_mem_nil
abbrev Azl:=@List.getElem?_eq_some_iff
abbrev Azm:=@List.getElem?_of_mem
abbrev Azn:=@List.getElem_mem
abbrev Azo:=@List.all_append
abbrev Azp:=@List.sum_cons
abbrev Azq:=@List.map_map
abbrev Azr:=@List.getElem?_set_ne
abbrev Azs:=@List.nodup_cons
abbrev Azt:=@List.getElem?_eq_none_iff
abbrev Azu:=@Nat.not_lt
abbrev Azv:=@Nat.le_add_left
abbrev Azw:=@List.flatMap_singleton
abbrev Azx:=@Bool.eq_iff_iff
abbrev Azy:=@List.all_nil
abbrev Azz:=@List.map_nil
abbrev Ava:=@Nat.eq_of_mul_eq_mul_right
abbrev Avb:=@List.getD_eq_getElem?_getD
abbrev Avc:=@List.map_reverse
abbrev Avd:=@List.map_id
abbrev Ave:=@List.sum_nil
end Go
namespace Go.Fw
open Go
abbrev Zc:=Array Obj
abbrev HP:=Zc->Prop
def Zc.cell (h:Zc) (b o:Nat):Option Value :=
  match h[b]? with
  | some (.cells c _ _)=>c[o]?
  | _=>none
def Zc.froz (h:Zc) (b o:Nat):Bool :=
  match h[b]? with
  | some (.cells _ _ (a,c))=>decide (a<=o)&&decide (o<c)
  | _=>false
def Zc.put (h:Zc) (b o:Nat) (v:Value):Zc :=
  h.modify b fun
    | .cells c e f=> .cells (c.setIfInBounds o v) e f
    | x=>x
def Zc.puts (h:Zc) (b:Nat):Nat->List Value->Zc
  | _,[]=>h
  | o,v::vs=>(h.put b o v).puts b (o+1) vs
def Zc.has (h:Zc) (b:Nat):Nat->List Value->Prop
  | _,[]=>True
  | o,v::vs=>h.cell b o=some v/\h.has b (o+1) vs
def Zc.free (h:Zc) (b:Nat):Nat->Nat->Prop
  | _,0=>True
  | o,n+1=>((∃ u,h.cell b o=some u)/\h.froz b o=false)/\h.free b (o+1) n
structure Sl where
  ptr:Option Addr
  len:Nat
  cap:Nat
def Ye:Value->Bool
  | .agg _ | .tuple _=>false
  | _=>true
def Zy (b:Bool) (A B:Prop):Prop:=(b=true->A)/\(b=false->B)
def Zi (n:Int) (K:Int->Prop):Prop:=K n
def Yq (b:Bool) (K:Bool->Prop):Prop:=K b
def ldI (h:Zc) (b o:Nat) (k:IntKind) (K:Int->Prop):Prop:=∃ n,h.cell b o=some (.int k n)/\K n
def ldB (h:Zc) (b o:Nat) (K:Bool->Prop):Prop:=∃ x,h.cell b o=some (.bool x)/\K x
def ldS (h:Zc) (b o:Nat) (K:ByteArray->Prop):Prop:=∃ x,h.cell b o=some (.string x)/\K x
def ldP (h:Zc) (b o:Nat) (K:Option Addr->Prop):Prop:=∃ x,h.cell b o=some (.pointer x)/\K x
def ldL (h:Zc) (b o:Nat) (K:Sl->Prop):Prop:=∃ x:Sl,h.cell b o=some (.slice x.ptr x.len x.cap)/\K x
def ldM (h:Zc) (b o:Nat) (K:Option Nat->Prop):Prop:=∃ x,h.cell b o=some (.map x)/\K x
def ldV (h:Zc) (b o:Nat) (K:Value->Prop):Prop:=∃ x,h.cell b o=some x/\K x
def Ze (p:Option Addr) (K:Nat->Nat->Prop):Prop:=∃ b o,p=some ⟨b,o,none⟩/\K b o
def st (h:Zc) (b o:Nat) (v:Value) (K:Zc->Prop):Prop :=
  (∃ u,h.cell b o=some u)/\h.froz b o=false/\Ye v=true/\K (h.put b o v)
def sts (h:Zc) (b o:Nat) (vs:List Value) (K:Zc->Prop):Prop :=
  h.free b o vs.length/\vs.all Ye=true/\K (h.puts b o vs)
def Zdb (p:Option Addr) (l:Nat) (i:Int) (size:Nat) (K:Nat->Nat->Prop):Prop :=
  ∃ b o,p=some ⟨b,o,none⟩/\0<=i/\i<l/\K b (o+i.toNat*size)
def ZCs (l:Nat) (i:Int) (K:Nat->Prop):Prop:=0<=i/\i<l/\K i.toNat
def ZwE (s:ByteArray) (i:Int) (K:Int->Prop):Prop:=∃ x,0<=i/\s[i.toNat]?=some x/\K (UInt8.toNat x)
def Y9 (p:Prop) (K:Prop):Prop:=p/\K
def ZxZ (p:Option Addr) (l m size:Nat):Option Addr:=if m=l then p else p.map (·.add (l*size))
def slc (p:Option Addr) (cap size:Nat) (a c b:Int) (K:Sl->Prop):Prop :=
  0<=a/\a<=c/\c<=b/\b<=cap/\K ⟨ZxZ p a.toNat b.toNat size,c.toNat - a.toNat,b.toNat - a.toNat⟩
def ZAM (s:ByteArray) (a b:Int) (K:ByteArray->Prop):Prop :=
  0<=a/\a<=b/\b<=s.size/\K (s.extract a.toNat b.toNat)
def Zz5 (k:IntKind) (x y:Int):Int:=k.wrap (x*2 ^ (min y.toNat k.bits))
def ZvH (k:IntKind) (x y:Int):Int:=x.fdiv (2 ^ (min y.toNat k.bits))
def Zvm (k:IntKind) (x y:Int):Int:=k.wrap (BitVec.toNat (BitVec.ofInt k.bits x &&& BitVec.ofInt k.bits y))
def orV (k:IntKind) (x y:Int):Int:=k.wrap (BitVec.toNat (BitVec.ofInt k.bits x ||| BitVec.ofInt k.bits y))
def ZPD (k:IntKind) (x y:Int):Int:=k.wrap (BitVec.toNat (BitVec.ofInt k.bits x ^^^ BitVec.ofInt k.bits y))
def ZNS (k:IntKind) (x y:Int):Int:=k.wrap (BitVec.toNat (BitVec.ofInt k.bits x &&& ~~~ BitVec.ofInt k.bits y))
def ZcC (x y:ByteArray):Bool:=x.toList ==y.toList
def ZNA (x y:Int):Int:=if y<x then y else x
def ZCm (x y:Int):Int:=if y>x then y else x
def ZHe (x y:ByteArray) (K:ByteArray->Prop):Prop:=x.size+y.size<=9223372036854775807/\K (x++y)
def Zbk (s:ByteArray):List Value:=s.data.toList.map fun b=>Value.int .u8 b.toNat
def rdS (x:Sl) (size:Nat) (h:Zc) (K:List Value->Prop):Prop :=
  (x.len=0/\K [])\/∃ b o l,x.ptr=some ⟨b,o,none⟩/\l.length=x.len*size/\h.has b o l/\K l
def Zbl (zs:List Value) (n:Nat):List Value:=(List.replicate n zs).flatten
def app (elem:TypeId) (size bytes:Nat) (zs:List Value) (s:Sl) (n:Nat) (new:List Value) (h:Zc) (K:Sl->Zc->Prop):Prop :=
  (s.len+n<=s.cap ->
    (new=[]/\K ⟨s.ptr,s.len+n,s.cap⟩ h) \/
    (∃ b o,s.ptr=some ⟨b,o,none⟩/\h.free b (o+s.len*size) new.length/\new.all Ye=true/\K ⟨s.ptr,s.len+n,s.cap⟩ (h.puts b (o+s.len*size) new))) /\
  (s.cap<s.len+n->(s.len+n)*bytes<=140737488355328/\s.len+n<=140737488355328/\rdS s size h fun old =>
    ∀ cap,s.len+n<=cap->cap<9223372036854775808 ->
      K ⟨some ⟨h.size,0,none⟩,s.len+n,cap⟩ (h.push (.cells (old++new++Zbl zs (cap - (s.len+n))).toArray elem)))
def mkS (elem:TypeId) (bytes:Nat) (zs:List Value) (l c:Int) (h:Zc) (K:Sl->Zc->Prop):Prop :=
  0<=l/\l<=c/\c*bytes<=281474976710656/\c<=281474976710656 /\
   K ⟨some ⟨h.size,0,none⟩,l.toNat,c.toNat⟩ (h.push (.cells (Zbl zs c.toNat).toArray elem))
def b2s (x:Sl) (h:Zc) (K:ByteArray->Prop):Prop :=
  (x.len=0/\K ByteArray.empty)\/∃ b o s,x.ptr=some ⟨b,o,none⟩/\s.size=x.len/\h.has b o (Zbk s)/\K s
def s2b (elem:TypeId) (s:ByteArray) (h:Zc) (K:Sl->Zc->Prop):Prop :=
  s.size<9223372036854775808/\∀ cap,s.size<=cap->cap<9223372036854775808 ->
    K ⟨some ⟨h.size,0,none⟩,s.size,cap⟩ (h.push (.cells (Zbk s++List.replicate (cap - s.size) (Value.int .u8 0)).toArray elem (cap,cap+1)))
def Zc.frz (h:Zc) (b:Nat):Zc :=
  h.modify b fun
    | .cells c e _=> .cells c e (c.size,c.size+1)
    | x=>x
def ZNB (p:Option Addr) (h:Zc) (K:Zc->Prop):Prop :=
  ∃ b o c e,p=some ⟨b,o,none⟩/\h[b]?=some (.cells c e (0,0))/\K (h.frz b)
def newC (h:Zc) (cells:List Value) (t:TypeId) (K:Nat->Zc->Prop):Prop:=K h.size (h.push (.cells cells.toArray t))
def ZuD (d:TypeDesc) (h:Zc) (m:Option Nat) (key:Value) (K:Option Value->Prop):Prop :=
  (m=none->K none)/\∀ b,m=some b->∃ es c r,h[b]?=some (.map es c)/\Instr.findNow d key es.toList 0=some r/\K (r.map (·.2))
def ZaO:List TypeDesc->List Value->Prop
  | [],[]=>True
  | d::a,v::vs=>MapKept.IsKey d v/\ZaO a vs
  | _,_=>False
def ZlZ (a:List TypeDesc) (v:Value):Prop:=∃ cs:List Value,v = .agg cs.toArray/\ZaO a cs
def Zjo:Value->Value->Bool
  | .int _ a,.int _ b=>a ==b
  | .string a,.string b=>ZcC a b
  | .bool a,.bool b=>a ==b
  | _,_=>false
def Zf7:List Value->List Value->Bool
  | [],[]=>true
  | v::vs,w::ws=>bif Zjo v w then Zf7 vs ws else false
  | _,_=>false
def ZwC (k:List Value):Value->Bool
  | .agg cs=>Zf7 k cs.toList
  | _=>false
def Znk (k:List Value):List MapEntry->Nat->Option (Nat × Value)
  | [],_=>none
  | e::es,i=>bif ZwC k e.key then some (i,e.val) else Znk k es (i+1)
def Ztm (a:List TypeDesc) (h:Zc) (m:Option Nat) (key:List Value) (K:Option Value->Prop):Prop :=
  (m=none->K none)/\∀ b,m=some b->∃ es c,h[b]?=some (.map es c)/\(∀ x,x∈es.toList->ZlZ a x.key)/\K ((Znk key es.toList 0).map (·.2))
def Zo2 (v:Value) (K:Bool->Prop):Prop:=(v = .nilIface/\K true)\/∃ t u,v = .iface t u/\K false
def ZuI (v:Value) (K:Bool->Prop):Prop:=(v = .nilFunc/\K true)\/∃ f a b,v = .func f a b/\K false
def asI (v:Value) (k:IntKind) (K:Int->Prop):Prop:=∃ n,v = .int k n/\K n
def asB (v:Value) (K:Bool->Prop):Prop:=∃ x,v = .bool x/\K x
def asS (v:Value) (K:ByteArray->Prop):Prop:=∃ x,v = .string x/\K x
def asP (v:Value) (K:Option Addr->Prop):Prop:=∃ x,v = .pointer x/\K x
def asL (v:Value) (K:Sl->Prop):Prop:=∃ x:Sl,v = .slice x.ptr x.len x.cap/\K x
def asM (v:Value) (K:Option Nat->Prop):Prop:=∃ x,v = .map x/\K x
def asT (v:Value) (t:TypeId) (K:Value->Prop):Prop:=∃ x,v = .iface t x/\K x
def Zjn (h:Zc) (K:Nat->Zc->Prop):Prop:=K h.size (h.push (.map #[] 0))
def ZHu (es:Array MapEntry) (c:Nat) (key v:Value):Option (Nat × Value)->Obj
  | some (i,_)=> .map (es.modify i fun e=>{ e with key:=key,val:=v }) c
  | none=> .map (es.push { key:=key,val:=v,born:=c }) (c+1)
def Xu (d:TypeDesc) (h:Zc) (m:Option Nat) (key v:Value) (K:Zc->Prop):Prop :=
  ∃ b es c r,m=some b/\h[b]?=some (.map es c)/\(∀ x,x∈es.toList->MapKept.IsKey d x.key)/\Instr.findNow d key es.toList 0=some r/\K (h.setIfInBounds b (ZHu es c key v r))
def Ztk (a:List TypeDesc) (h:Zc) (m:Option Nat) (key:List Value) (v:Value) (K:Zc->Prop):Prop :=
  ∃ b es c,m=some b/\h[b]?=some (.map es c)/\(∀ x,x∈es.toList->ZlZ a x.key)/\K (h.setIfInBounds b (ZHu es c (.agg key.toArray) v (Znk key es.toList 0)))
def ZN4 (es:Array MapEntry) (c:Nat):Option (Nat × Value)->Obj
  | some (i,_)=> .map (es.eraseIdxIfInBounds i) c
  | none=> .map es c
def ZCn (d:TypeDesc) (h:Zc) (m:Option Nat) (key:Value) (K:Zc->Prop):Prop :=
  (m=none->K h)/\∀ b,m=some b->∃ es c r,h[b]?=some (.map es c)/\Instr.findNow d key es.toList 0=some r/\K (h.setIfInBounds b (ZN4 es c r))
def ZN6 (h:Zc) (m:Option Nat) (K:Zc->Prop):Prop :=
  (m=none->K h)/\∀ b,m=some b->∃ es c,h[b]?=some (.map es c)/\K (h.setIfInBounds b (.map #[] c))
def ZN5 (s:Sl) (zs:List Value) (h:Zc) (K:Zc->Prop):Prop :=
  (s.ptr=none/\K h)\/(s.len=0/\K h) \/
  ∃ b o,s.ptr=some ⟨b,o,none⟩/\h.free b o (Zbl zs s.len).length/\(Zbl zs s.len).all Ye=true/\K (h.puts b o (Zbl zs s.len))
def rgM (h:Zc) (m:Option Nat) (K:Nat->Zc->Prop):Prop :=
  (m=none->K h.size (h.push (.mapIter none 0 #[] 0)))/\∀ b,m=some b->∃ es c,h[b]?=some (.map es c)/\K h.size (h.push (.mapIter (some b) c #[] c))
def ZNx (h:Zc) (r:Nat) (T:Value->Value->Zc->Prop) (F:Prop):Prop :=
  (∃ s seen c,h[r]?=some (.mapIter none s seen c)/\F) \/
  ∃ a since seen c0 es clock,h[r]?=some (.mapIter (some a) since seen c0)/\h[a]?=some (.map es clock)/\(∀ x,x∈es.toList->x.born<since)/\since<=c0 /\
    ((leftOf es seen).size=0->F)/\∀ e,e∈(leftOf es seen).toList->T e.key e.val (h.setIfInBounds r (.mapIter (some a) since (seen.push e.born) clock))
def ZPM (h:Zc) (r:Nat) (K:Value->Value->Prop):Prop :=
  ∃ (a since:Nat) (seen:Array Nat) (es:Array MapEntry) (clock:Nat) (e:MapEntry),h[r]?=some (.mapIter (some a) since (seen.push e.born) clock)/\h[a]?=some (.map es clock)/\e∈es.toList/\(es.toList.map (·.born)).Nodup/\K e.key e.val
def ZND (v:Value) (f:Nat) (P:Prop):Prop:=v = .func (.func f) #[] #[]/\P
def exG {ρ:Type} (v:Value) (mk:ρ->Value) (K:ρ->Prop):Prop:=∃ r,v=mk r/\K r
def ZPG (h:Zc) (m:Option Nat) (K:Int->Prop):Prop :=
  (m=none->K 0)/\∀ b,m=some b->∃ es c,h[b]?=some (.map es c)/\K (es.size:Int)
def ZHc (x:Value) (h:Zc) (K:Value->Zc->Prop):Prop :=
  ∃ t b es c,x = .iface t (.map (some b))/\h[b]?=some (.map es c)/\K (.iface t (.map (some h.size))) (h.push (.map es c))
def ZvX {ρ:Type} (m:(ρ->Zc->Prop)->Zc->Prop) (h:Zc) (K:ρ->Prop):Prop :=
  ∃ r,m (fun a h'=>a=r/\h'=h) h/\K r
def Yb (h:Zc):List (Nat × Nat × Value)->Prop
  | []=>True
  | (b,o,v)::r=>h.cell b o=some v/\Yb h r
def Zsx (A B:Prop):Prop:=A/\B
def ZlD (r:Loop) (st:LoopState) (p:Option Code):Obj:= .loop { r with state:=st,pending:=p }
def Zwi (h:Zc) (l:Nat) (r:Loop) (st:LoopState) (p:Option Code) (K:Prop):Prop:=h[l]?=some (ZlD r st p)/\K
def ZB8 (h:Zc) (l:Nat) (o:Obj):Zc:=h.setIfInBounds l o
abbrev Yld:=Nat->List Value->(Bool->Zc->Prop)->Zc->Prop
def ZBX (r:Loop) (l:Nat) (n:Nat) (body:List Value->Zc->(Option Code->Zc->Prop)->Prop):Yld:=fun a vs k h =>
  a=l/\vs.length=n/\Zwi h l r .ready none (
   body vs h fun p h'=>Zwi h' l r .busy none (k p.isNone (ZB8 h' l (ZlD r (if p.isNone then .ready else .done) p))))
def ZHg (r:Loop) (l:Nat) (h:Zc) (K:Zc->Prop):Prop:=Zwi h l r .ready none (K (ZB8 h l (ZlD r .busy none)))
def ZGB (n:Nat) (it:Yld->Nat->(Zc->Prop)->Zc->Prop) (body:Nat->Loop->List Value->Zc->(Option Code->Zc->Prop)->Prop) (h:Zc) (K:Option Code->Nat->Zc->Prop):Prop :=
  ∀ r:Loop,it (ZBX r (h.size+1) n (body (h.size+1) r)) (h.size+1)
    (fun h'=>∃ st p,st≠ .busy/\Zwi h' (h.size+1) r st p (K p h.size (ZB8 h' (h.size+1) (ZlD r .exhausted p)))) ((h.push (.deferred (some []))).push (ZlD r .ready none))
def ZGY (p:Option Code) (N:Prop) (X:Nat->Prop) (R:Prop):Prop:=match p with
  | none=>N
  | some (.exit id)=>X id
  | some .ret=>R
  | _=>False
def ZHm {ρ:Type} (mk:ρ->List Value) (vs:List Value) (K:ρ->Prop):Prop:=∃ r,vs=mk r/\K r
def ZGx (D:Nat) (h:Zc) (K:Zc->Prop):Prop:=h[D]?=some (.deferred (some []))/\K (ZB8 h D (.deferred none))
def Zau {σ:Type} (body:(σ->Zc->Prop)->σ->Zc->Prop) (s:σ) (h:Zc):Prop :=
  ∃ (I:σ->Zc->Prop) (μ:σ->Zc->Nat),I s h/\∀ s h,I s h->body (fun s' h'=>I s' h'/\μ s' h'<μ s h) s h
def Zgq {σ:Type} (rest:σ->Zc->Prop) (pre:(σ->Zc->Prop)->Prop):Prop :=
  ∃ J:σ->Zc->Prop,(∀ s h,J s h->rest s h)/\pre J
def XU (d:Nat->Bool) (k:Nat):Nat->Bool:=fun i=>bif Nat.beq i k then true else d i
def Zz6 {σ:Type} (S:((Nat->Bool)->σ->Zc->Prop)->(Nat->Bool)->σ->Zc->Prop) (F:(Nat->Bool)->σ->Zc->Prop) (h:Zc):Prop :=
  ∃ I:(Nat->Bool)->σ->Zc->Prop,(∃ s,I (fun _=>false) s h)/\(∀ d s h',I d s h'->S I d s h')/\∀ d s h',I d s h'->F d s h'
theorem ZdY {σ:Type} {S:((Nat->Bool)->σ->Zc->Prop)->(Nat->Bool)->σ->Zc->Prop} {F:(Nat->Bool)->σ->Zc->Prop} {h:Zc} (I:(Nat->Bool)->σ->Zc->Prop) (s:σ)
    (a:I (fun _=>false) s h) (b:∀ d s h',I d s h'->S I d s h') (c:∀ d s h',I d s h'->F d s h'):Zz6 S F h:=⟨I,⟨s,a⟩,b,c⟩
theorem Zv {σ:Type} {body:(σ->Zc->Prop)->σ->Zc->Prop} {s:σ} {h:Zc} (I:σ->Zc->Prop) (μ:σ->Zc->Nat)
    (a:I s h) (b:∀ s h,I s h->body (fun s' h'=>I s' h'/\μ s' h'<μ s h) s h):Zau body s h:=⟨I,μ,a,b⟩
theorem ZO {σ:Type} {rest:σ->Zc->Prop} {pre:(σ->Zc->Prop)->Prop} (J:σ->Zc->Prop)
    (a:∀ s h,J s h->rest s h) (b:pre J):Zgq rest pre:=⟨J,a,b⟩
theorem Zsl {σ:Type} {rest:σ->Zc->Prop} {pre:(σ->Zc->Prop)->Prop} (h:pre rest):Zgq rest pre:=⟨rest,fun _ _ h=>h,h⟩
end Go.Fw
namespace Go.Fw
open Go
theorem Zhl {A B:Prop} (h:A):Zy true A B:=⟨fun _=>h,fun e=>by cases e⟩
theorem ZfM {A B:Prop} (h:B):Zy false A B:=⟨fun e=>(by cases e),fun _=>h⟩
theorem Za {n:Int} {K:Int->Prop} (h:K n):Zi n K:=h
theorem Zh {n:Bool} {K:Bool->Prop} (h:K n):Yq n K:=h
theorem Zq {p:Prop} [Decidable p] {A B:Prop} (a:p->A) (b:¬ p->B):Zy (decide p) A B :=
  ⟨fun e=>a (of_decide_eq_true e),fun e=>b (of_decide_eq_false e)⟩
theorem Zm {b:Bool} {A B:Prop} (e:b=true) (h:A):Zy b A B:=by subst e;exact Zhl h
theorem Zl {b:Bool} {A B:Prop} (e:b=false) (h:B):Zy b A B:=by subst e;exact ZfM h
theorem YA {n:Int} (d : -9223372036854775808<=n) (e:n<=9223372036854775807):IntKind.wrap .i64 n=n:=by
  unfold IntKind.wrap
  have b:(2:Int) ^ IntKind.i64.bits=18446744073709551616:=by decide
  have a:(2:Int) ^ (IntKind.i64.bits - 1)=9223372036854775808:=by decide
  have c:IntKind.i64.signed=true:=rfl
  simp only [b,a,c,Aqa]
  rcases Int.lt_or_le n 0 with h | h
  ·have:n % 18446744073709551616=n+18446744073709551616:=by omega
   rw [this,if_pos (by simp;omega)]
   omega
  ·have:n % 18446744073709551616=n:=by omega
   rw [this,if_neg (by simp;omega)]
theorem ZsM {n:Int} (c:0<=n) (d:n<256):IntKind.wrap .u8 n=n:=by
  unfold IntKind.wrap
  have a:(2:Int) ^ IntKind.u8.bits=256:=by decide
  have b:IntKind.u8.signed=false:=rfl
  simp only [a,b,Aqb,Aqc,if_false]
  omega
theorem Zxk (n:Int):IntKind.wrap .u8 n=n % 256:=by
  unfold IntKind.wrap
  have a:(2:Int) ^ IntKind.u8.bits=256:=by decide
  have b:IntKind.u8.signed=false:=rfl
  simp only [a,b,Aqb,Aqc,if_false]
theorem ZzC {h:Zc} {b o:Nat} {v:Value} (a:h.cell b o=some v):b<h.size:=by
  unfold Zc.cell at a
  rcases Aqd b h.size with c | c
  ·exact c
  ·rw [Aqe c] at a;cases a
theorem Zpi {h h':Zc} {b:Nat} (he:h'[b]?=h[b]?) (o:Nat):h'.cell b o=h.cell b o:=by
  unfold Zc.cell;rw [he]
theorem Zr4 {h h':Zc} {b:Nat} (he:h'[b]?=h[b]?):∀ {l:List Value} {o:Nat},h.has b o l->h'.has b o l
  | [],_,_=>trivial
  | _::_,_,⟨a,c⟩=>⟨(Zpi he _).trans a,Zr4 he c⟩
theorem ZiC {h:Zc} {b:Nat}:∀ {l:List Value} {o i:Nat} {v:Value},h.has b o l->l[i]?=some v->h.cell b (o+i)=some v
  | [],_,_,_,_,a=>by simp at a
  | x::l,o,0,v,⟨c,_⟩,a=>by simp at a;subst a;exact c
  | x::l,o,i+1,v,⟨_,d⟩,a=>by
    have:=ZiC (i:=i) (v:=v) d (by simpa using a)
    rw [show o+(i+1)=o+1+i from by omega];exact this
theorem ZuR {h:Zc} {b:Nat}:∀ {l:List Value} {o:Nat},(∀ i v,l[i]?=some v->h.cell b (o+i)=some v)->h.has b o l
  | [],_,_=>trivial
  | x::l,o,a=>⟨by have:=a 0 x (by simp);simpa using this,ZuR fun i v c=>by have:=a (i+1) v (by simpa using c);rw [show o+1+i=o+(i+1) from by omega];exact this⟩
theorem ZCv {h:Zc} {b o:Nat} {l:List Value} (c:h.has b o l) (a:l≠[]):b<h.size:=by
  cases l with
  | nil=>exact absurd rfl a
  | cons v l=>exact ZzC c.1
theorem ZEX {h:Zc} {b o:Nat} {l:List Value} (c:h.has b o l) (k n:Nat):h.has b (o+k) ((l.drop k).take n):=by
  refine ZuR fun i v a=>?_
  rw [Aqf] at a
  split at a
  ·rw [Aqg] at a
   have:=ZiC c a
   rw [Aqh];exact this
  ·cases a
theorem Zli {h:Zc} {b o:Nat} {c:Array Value} {e:TypeId} {f:Nat × Nat} (a:h[b]?=some (.cells c e f)):h.cell b o=c[o]?:=by
  unfold Zc.cell;rw [a]
theorem ZdE {h:Zc} {b o:Nat} {c:Array Value} {e:TypeId} {f:Nat × Nat} {l:List Value} (a:h[b]?=some (.cells c e f)) (d:∀ i v,l[i]?=some v->c[o+i]?=some v):h.has b o l :=
  ZuR fun i v g=>by rw [Zli a];exact d i v g
theorem Zje {h:Zc} {b:Nat} {c:Array Value} {e:TypeId} (a:h[b]?=some (.cells c e (0,0))):∀ {n o:Nat},o+n<=c.size->h.free b o n
  | 0,_,_=>trivial
  | n+1,o,hle=>by
    have d:o<c.size:=by omega
    refine ⟨⟨⟨c[o],by rw [Zli a];simp [d]⟩,?_⟩,Zje a (by omega)⟩
    unfold Zc.froz;rw [a];simp
theorem ZrE {h:Zc} {b o:Nat} {v:Value} {c:Array Value} {e:TypeId} {f:Nat × Nat} (a:h[b]?=some (.cells c e f)):(h.put b o v)[b]?=some (.cells (c.setIfInBounds o v) e f):=by
  unfold Zc.put
  rw [Aqi,if_pos rfl,a]
  rfl
theorem ZrD {h:Zc} {b o k:Nat} {v:Value} (a:k≠b):(h.put b o v)[k]?=h[k]?:=by
  unfold Zc.put
  rw [Aqi,if_neg (Ne.symm a)]
theorem ZlQ {h:Zc} {b o:Nat} {v:Value}:(h.put b o v).size=h.size:=by
  unfold Zc.put;simp
theorem Zkp {h:Zc} {b:Nat}:∀ {vs:List Value} {o:Nat},(h.puts b o vs).size=h.size
  | [],_=>rfl
  | v::vs,o=>by unfold Zc.puts;rw [Zkp,ZlQ]
theorem Zk1 {b k:Nat} (a:k≠b):∀ {vs:List Value} {h:Zc} {o:Nat},(h.puts b o vs)[k]?=h[k]?
  | [],_,_=>rfl
  | v::vs,h,o=>by unfold Zc.puts;rw [Zk1 a,ZrD a]
theorem ZoJ {b:Nat} {e:TypeId} {f:Nat × Nat}:∀ {vs:List Value} {h:Zc} {o:Nat} {c:Array Value},h[b]?=some (.cells c e f)->o+vs.length<=c.size ->
    ∃ a,(h.puts b o vs)[b]?=some (.cells a e f)/\a.toList=c.toList.take o++vs++c.toList.drop (o+vs.length)
  | [],h,o,c,d,_=>⟨c,d,by simp⟩
  | v::vs,h,o,c,d,hle=>by
    simp only [Aqj] at hle
    obtain ⟨a,g,i⟩:=ZoJ (vs:=vs) (h:=h.put b o v) (o:=o+1) (ZrE d) (by simp;omega)
    refine ⟨a,g,?_⟩
    rw [i]
    have j:o<c.toList.length:=by simp;omega
    simp only [Aqk,Aqj]
    rw [Aql (by simp;omega),Aqm (by omega),Aqn (by omega)]
    simp
    omega
theorem ZAW {h:Zc} {x:Obj} {k:Nat} (a:k<h.size):(h.push x)[k]?=h[k]?:=by
  rw [Array.getElem?_push,if_neg (by omega)]
theorem Zi6 {h:Zc} {x:Obj}:(h.push x)[h.size]?=some x:=by simp
structure Ext (h h':Zc):Prop where
  size:h.size<=h'.size
  old:∀ k,k<h.size->h'[k]?=h[k]?
theorem Ext.refl (h:Zc):Ext h h:=⟨Aqo _,fun _ _=>rfl⟩
theorem Ext.trans {a b c:Zc} (h:Ext a b) (h':Ext b c):Ext a c :=
  ⟨Aqp h.size h'.size,fun k d=>(h'.old k (Aqq d h.size)).trans (h.old k d)⟩
theorem Ext.push (h:Zc) (x:Obj):Ext h (h.push x):=⟨by simp,fun _ a=>ZAW a⟩
structure Upd (S:Nat->Prop) (h h':Zc):Prop where
  size:h.size<=h'.size
  old:∀ k,k<h.size->¬ S k->h'[k]?=h[k]?
theorem Upd.refl (S:Nat->Prop) (h:Zc):Upd S h h:=⟨Aqo _,fun _ _ _=>rfl⟩
theorem Upd.trans {S:Nat->Prop} {a b c:Zc} (h:Upd S a b) (h':Upd S b c):Upd S a c :=
  ⟨Aqp h.size h'.size,fun k d e=>(h'.old k (Aqq d h.size) e).trans (h.old k d e)⟩
theorem Upd.mono {S T:Nat->Prop} {a b:Zc} (h:Upd S a b) (d:∀ k,k<a.size->S k->T k):Upd T a b :=
  ⟨h.size,fun k c e=>h.old k c fun f=>e (d k c f)⟩
theorem Ext.upd {a b:Zc} (h:Ext a b) (S:Nat->Prop):Upd S a b:=⟨h.size,fun k c _=>h.old k c⟩
theorem Upd.ext {S:Nat->Prop} {a b:Zc} (h:Upd S a b) (d:∀ k,k<a.size->¬ S k):Ext a b:=⟨h.size,fun k c=>h.old k c (d k c)⟩
theorem Upd.put (h:Zc) (b o:Nat) (v:Value):Upd (· = b) h (h.put b o v):=⟨by rw [ZlQ];exact Aqo _,fun k _ a=>ZrD a⟩
theorem Upd.puts (h:Zc) (b o:Nat) (vs:List Value):Upd (· = b) h (h.puts b o vs):=⟨by rw [Zkp];exact Aqo _,fun k _ a=>Zk1 a⟩
theorem Zv8 {h:Zc} {cells:List Value} {t:TypeId} {K:Nat->Zc->Prop} (a:K h.size (h.push (.cells cells.toArray t))):newC h cells t K:=a
theorem Ext.then {a b c:Zc} {S:Nat->Prop} (h:Ext a b) (h':Upd S b c) (e:∀ k,S k->a.size<=k):Ext a c :=
  ⟨Aqp h.size h'.size,fun k d=>(h'.old k (Aqq d h.size) fun f=>by have:=e k f;omega).trans (h.old k d)⟩
def slV (s:Sl):Value:= .slice s.ptr s.len s.cap
def Sl.blk (s:Sl):Option Nat:=s.ptr.map (·.block)
def bv (x:UInt8):Value:= .int .u8 x.toNat
structure Row (h:Zc) (s:Sl) (size:Nat) (vs:List Value):Prop where
  len:vs.length=s.len*size
  cap:s.len<=s.cap
  big:s.cap<9223372036854775808
  at_:s.len=0\/∃ b o,s.ptr=some ⟨b,o,none⟩/\h.has b o vs
abbrev Zz0 (h:Zc) (s:Sl) (l:List UInt8):Prop:=Row h s 1 (l.map bv)
theorem Row.nil_of {h:Zc} {s:Sl} {size:Nat} {vs:List Value} (a:Row h s size vs) (b:s.len=0):vs=[] :=
  Aqr (by rw [a.len,b,Aqs])
theorem Row.congr {h h':Zc} {s:Sl} {size:Nat} {vs:List Value} (c:Row h s size vs) (he:∀ b o,s.ptr=some ⟨b,o,none⟩->vs≠[]->b<h.size->h'[b]?=h[b]?):Row h' s size vs:=by
  refine ⟨c.len,c.cap,c.big,?_⟩
  rcases c.at_ with e | ⟨b,o,hp,d⟩
  ·exact .inl e
  ·rcases Classical.em (vs=[]) with a | a
   ·subst a;exact .inr ⟨b,o,hp,trivial⟩
   ·exact .inr ⟨b,o,hp,Zr4 (he b o hp a (ZCv d a)) d⟩
theorem Row.ext {h h':Zc} {s:Sl} {size:Nat} {vs:List Value} (a:Row h s size vs) (he:Ext h h'):Row h' s size vs :=
  a.congr fun b _ _ _ c=>he.old b c
theorem Zz0.length {h:Zc} {s:Sl} {l:List UInt8} (a:Zz0 h s l):s.len=l.length:=by
  have:=a.len;simp at this;omega
theorem Row.at1 {h:Zc} {s:Sl} {vs:List Value} (c:Row h s 1 vs) {i:Nat} {v:Value} (a:vs[i]?=some v) :
    ∃ b o,s.ptr=some ⟨b,o,none⟩/\i<s.len/\h.cell b (o+i)=some v:=by
  have d:i<vs.length:=by
    rcases Aqd i vs.length with h | h
    ·exact h
    ·rw [Aqt h] at a;cases a
  rcases c.at_ with e | ⟨b,o,hp,f⟩
  ·rw [c.nil_of e] at a;simp at a
  ·exact ⟨b,o,hp,by have:=c.len;omega,ZiC f a⟩
theorem Row.idx {h:Zc} {s:Sl} {vs:List Value} (a:Row h s 1 vs) {i:Int} {n:Nat} (c:i=n) {v:Value} (d:vs[n]?=some v) {K:Nat->Nat->Prop}
    (e:∀ b o,s.ptr=some ⟨b,o,none⟩->h.cell b (o+n)=some v->K b (o+n)):Zdb s.ptr s.len i 1 K:=by
  obtain ⟨b,o,hp,f,g⟩:=a.at1 d
  subst c
  refine ⟨b,o,hp,by omega,by omega,?_⟩
  rw [Aqu,Aqv]
  exact e b o hp g
theorem Zz0.idx {h:Zc} {s:Sl} {l:List UInt8} (a:Zz0 h s l) {i:Int} {n:Nat} (c:i=n) {x:UInt8} (d:l[n]?=some x) {K:Int->Prop} (e:K x.toNat) :
    Zdb s.ptr s.len i 1 fun b o=>ldI h b o .u8 K :=
  Row.idx a c (v:=bv x) (by simp [d]) fun _ _ _ f=>⟨_,f,e⟩
theorem Row.rd {h:Zc} {s:Sl} {size:Nat} {vs:List Value} (a:Row h s size vs) {K:List Value->Prop} (c:K vs):rdS s size h K:=by
  rcases a.at_ with d | ⟨b,o,hp,e⟩
  ·rw [a.nil_of d] at c;exact .inl ⟨d,c⟩
  ·exact .inr ⟨b,o,vs,hp,a.len,e,c⟩
theorem Row.nil (h:Zc) (size:Nat):Row h ⟨none,0,0⟩ size []:=⟨by simp,Aqo _,by decide,.inl rfl⟩
theorem Row.slc {h:Zc} {s:Sl} {vs:List Value} (c:Row h s 1 vs) {d e f:Int} {a b m:Nat} (i:d=a) (eb:e=b) (em:f=m) (p:a<=b) (q:b<=s.len) (j:b<=m) (r:m<=s.cap) {K:Sl->Prop}
    (l:∀ s',Row h s' 1 ((vs.drop a).take (b - a))->s'.len=b - a->s'.cap=m - a->(∀ k,s'.blk=some k->s.blk=some k)->K s'):Fw.slc s.ptr s.cap 1 d e f K:=by
  subst i eb em
  refine ⟨by omega,by omega,by omega,by omega,?_⟩
  have t:=c.len
  refine l _ ⟨?_,?_,?_,?_⟩ ?_ ?_ ?_
  ·simp;omega
  ·simp;omega
  ·have:=c.big;simp;omega
  ·simp only [Aqu]
   rcases Aqw (b - a) with g | g
   ·exact .inl g
   ·right
    rcases c.at_ with u | ⟨bb,o,hp,n⟩
    ·omega
    ·refine ⟨bb,o+a,?_,ZEX n a (b - a)⟩
     unfold ZxZ
     rw [if_neg (by omega),hp]
     simp only [Aqx,Aqv]
     unfold Addr.add
     split
     ·rename_i h;subst h;rfl
     ·rfl
  ·simp
  ·simp
  ·intro k
   unfold Sl.blk ZxZ
   split
   ·exact id
   ·cases s.ptr with
    | none=>simp
    | some x=>simp [Addr.add];split<;>exact id
structure Own (h:Zc) (base:Nat) (s:Sl) (size:Nat) (vs:List Value):Prop where
  len:vs.length=s.len*size
  cap:s.len<=s.cap
  big:s.cap<9223372036854775808
  at_:(s.ptr=none/\s.cap=0)\/∃ b c e,s.ptr=some ⟨b,0,none⟩/\base<=b/\h[b]?=some (.cells c e (0,0))/\c.size=s.cap*size/\vs=c.toList.take (s.len*size)
theorem Own.row {h:Zc} {base:Nat} {s:Sl} {size:Nat} {vs:List Value} (ho:Own h base s size vs):Row h s size vs:=by
  refine ⟨ho.len,ho.cap,ho.big,?_⟩
  rcases ho.at_ with ⟨_,g⟩ | ⟨b,c,e,hp,_,d,j,f⟩
  ·exact .inl (by have:=ho.cap;omega)
  ·right
   refine ⟨b,0,hp,ZdE d fun i v a=>?_⟩
   rw [f,Aqf] at a
   split at a
   ·simpa using a
   ·cases a
theorem Own.nil (h:Zc) (base size:Nat):Own h base ⟨none,0,0⟩ size []:=⟨by simp,Aqo _,by decide,.inl ⟨rfl,rfl⟩⟩
theorem Own.congr {h h':Zc} {base:Nat} {s:Sl} {size:Nat} {vs:List Value} (ho:Own h base s size vs) (he:∀ b,s.blk=some b->b<h.size->base<=b->h'[b]?=h[b]?):Own h' base s size vs:=by
  refine ⟨ho.len,ho.cap,ho.big,?_⟩
  rcases ho.at_ with g | ⟨b,c,e,hp,f,a,i⟩
  ·exact .inl g
  ·refine .inr ⟨b,c,e,hp,f,?_,i⟩
   rw [he b (by simp [Sl.blk,hp]) ?_ f]
   ·exact a
   ·rcases Aqd b h.size with d | d
    ·exact d
    ·rw [Aqe d] at a;cases a
theorem Own.base {h:Zc} {base base':Nat} {s:Sl} {size:Nat} {vs:List Value} (ho:Own h base s size vs) (g:base'<=base):Own h base' s size vs:=by
  refine ⟨ho.len,ho.cap,ho.big,?_⟩
  rcases ho.at_ with a | ⟨b,c,e,hp,d,f⟩
  ·exact .inl a
  ·exact .inr ⟨b,c,e,hp,by omega,f⟩
theorem Own.lt {h:Zc} {base:Nat} {s:Sl} {size:Nat} {vs:List Value} (ho:Own h base s size vs) {b:Nat} (a:s.blk=some b):base<=b/\b<h.size:=by
  rcases ho.at_ with ⟨hp,_⟩ | ⟨i,c,e,hp,d,g,_⟩
  ·simp [Sl.blk,hp] at a
  ·simp [Sl.blk,hp] at a
   subst a
   refine ⟨d,?_⟩
   rcases Aqd i h.size with f | f
   ·exact f
   ·rw [Aqe f] at g;cases g
theorem ZgK (zs:List Value) (n:Nat):(Zbl zs n).length=n*zs.length:=by simp [Zbl]
theorem Own.app {h:Zc} {base:Nat} {s:Sl} {size bytes n:Nat} {vs new zs:List Value} {elem:TypeId} {K:Sl->Zc->Prop}
    (ho:Own h base s size vs) (a:new.length=n*size) (j:new.all Ye=true) (v:zs.length=size) (w:(s.len+n)*bytes<=140737488355328) (x:s.len+n<=140737488355328) (i:base<=h.size)
    (l:∀ s' h',Own h' base s' size (vs++new)->s'.len=s.len+n->Upd (fun k=>s.blk=some k) h h'->(s'.blk=s.blk\/s'.blk=some h.size)->K s' h') :
    Fw.app elem size bytes zs s n new h K:=by
  have hlen:=ho.len
  have r:=ho.cap
  refine ⟨fun d=>?_,fun y=>⟨w,x,ho.row.rd fun cap z A=>?_⟩⟩
  ·rcases ho.at_ with ⟨hp,B⟩ | ⟨b,c,e,hp,p,f,t,C⟩
   ·left
    have u:n=0:=by omega
    have g:new=[]:=Aqr (by rw [a,u,Aqs])
    refine ⟨g,l _ _ ?_ rfl (Upd.refl _ _) (.inl rfl)⟩
    refine ⟨by simp [g,u,hlen],d,ho.big,.inl ⟨hp,B⟩⟩
   ·right
    have hle:s.len*size+new.length<=c.size:=by
      rw [t,a,<- Aqy];exact Aqz _ d
    refine ⟨b,0,hp,Zje f (by simpa using hle),j,?_⟩
    obtain ⟨D,q,m⟩:=ZoJ (vs:=new) (o:=0+s.len*size) f (by simpa using hle)
    refine l _ _ ⟨?_,d,ho.big,.inr ⟨b,D,e,hp,p,q,?_,?_⟩⟩ rfl ((Upd.puts h b _ new).mono fun k _ l=>by subst l;simp [Sl.blk,hp]) (.inl rfl)
    ·simp [hlen,a,Aqy]
    ·rw [<- t,<- Awa,m]
     simp
     omega
    ·rw [m]
     simp only [Awb]
     rw [Aqy,<- a,Awc (by simp;omega),Awd (by simp;omega),C]
  ·refine l _ _ ⟨by simp [hlen,a,Aqy],z,A,.inr ⟨h.size,_,elem,rfl,i,Zi6,?_,?_⟩⟩ rfl ((Ext.push h _).upd _) (.inr rfl)
   ·simp only [List.size_toArray,Awe,ZgK,v,hlen,a]
    rw [<- Aqy,<- Aqy]
    congr 1
    omega
   ·simp only []
    rw [Awc (by simp [hlen,a,Aqy]),Awd (by simp [hlen,a,Aqy])]
theorem Own.newC {h:Zc} {cells:List Value} {t:TypeId} {size n:Nat} (a:cells.length=n*size) (b:n<9223372036854775808) :
    Own (h.push (.cells cells.toArray t)) h.size ⟨some ⟨h.size,0,none⟩,n,n⟩ size cells :=
  ⟨a,Aqo _,b,.inr ⟨h.size,_,t,rfl,Aqo _,Zi6,by simp [a],by simp;rw [Awd (by omega)]⟩⟩
theorem ZNy {h:Zc} {cells:List Value} {t:TypeId} {K:Nat->Zc->Prop} (l:List UInt8) (n:Nat) (c:cells=l.map bv) (d:l.length=n) (a:n<9223372036854775808)
    (e:∀ b h',Zz0 h' ⟨some ⟨b,0,none⟩,n,n⟩ l->Ext h h'->b=h.size->K b h'):newC h cells t K:=by
  subst c
  exact e _ _ (Own.newC (h:=h) (cells:=l.map bv) (t:=t) (size:=1) (n:=n) (by simp [d]) a).row (Ext.push h _) rfl
end Go.Fw
namespace Go.Proofs.YtpjbjdheeemdiaaGreatDoor
open Go Go.Fw
structure ZaT (h:Zc):Prop where
  utf:∀ w:World,w.heap=h->Lib.Utf8Tabs 0 1 w
  pow:∀ w:World,w.heap=h->Lib.TabIs Tryz.prog w "internal/strconv.uint64pow10" .u64 Lib.pow10Tab
  range:∃ t p,h.cell 5 0=some (.iface t p)
  syn:∃ t p,h.cell 4 0=some (.iface t p)
  most:∃ m,h.cell 2 0=some (.int .i64 m)
abbrev Zj (l:List UInt8):ByteArray:=⟨l.toArray⟩
def Xf (s:ByteArray) (c:Int) (K:Int->HP) (h:Zc):Prop:=K (Lib.indexByte s.data.toList c.toNat.toUInt8) h
def Z8 (s:ByteArray) (K:Bool->HP) (h:Zc):Prop:=ZaT h/\s.size<=9223372036854775807/\∀ h',Ext h h'->K (Lib.validD s.data.toList) h'
def Xc (s:ByteArray) (K:Int->HP) (h:Zc):Prop:=s.size<9223372036854775807/\∀ h',Ext h h'->K (Lib.runeCount s) h'
def Zdq (n:Int) (K:ByteArray->HP) (h:Zc):Prop:=ZaT h/\ -9223372036854775808<=n/\n<=9223372036854775807/\∀ h',Ext h h'->K (Zj (Lib.itoa n)) h'
def ZeX (s:ByteArray) (K:Int->Value->HP) (h:Zc):Prop:=ZaT h/\s.size<=281474976710656 /\
  match Lib.atoiAll s.data.toList with
  | .ok v=>∀ h',Ext h h'->K v .nilIface h'
  | .range=>∀ h' t p,Ext h h'->K (Lib.atoiSat s.data.toList) (.iface t p) h'
  | _=>∀ h' t p,Ext h h'->K 0 (.iface t p) h'
def Yf (p:Option Addr) (K:HP) (h:Zc):Prop :=
  ∃ b c v T,p=some ⟨b,0,none⟩/\h[b]?=some (.cells #[c,v] T (0,0))/\(T=188\/T=190) /\
    ((c = .pointer none/\K (h.put b 0 (.pointer (some ⟨b,0,none⟩))))\/(c = .pointer (some ⟨b,0,none⟩)/\K h))
def Xb (p:Option Addr) (K:ByteArray->HP) (h:Zc):Prop :=
  ∃ (b:Nat) (c:Value) (x:Sl) (T:TypeId),p=some ⟨b,0,none⟩/\h[b]?=some (.cells #[c,.slice x.ptr x.len x.cap] T (0,0)) /\
    ((x.ptr=none/\x.len=0/\x.cap=0/\K ByteArray.empty h) \/
     ∃ (g:Nat) (s:ByteArray) (cur:Array Value) (a:Nat × Nat),x.ptr=some ⟨g,0,none⟩/\g≠b/\x.len=s.size/\s.size≠0/\x.len<=x.cap/\x.cap<=cur.size/\x.cap<9223372036854775808/\h[g]?=some (.cells cur 5 a)/\h.has g 0 (Zbk s) /\
       ∀ h',Upd (· = g) h h'->K s h')
end Go.Proofs.YtpjbjdheeemdiaaGreatDoor
