/- The words in which the functions' models are written: memory as an array of blocks, and what one step of a function asks of it and leaves. Plain definitions, no program. -/
import GoSem.Core.World
import GoSem.Core.View
import GoSem.Core.Lib
import GoSem.Instr.Lookup
import Derived.MapKept
import Derived.Laws.IdiomRangeMap
set_option linter.unusedVariables false
set_option linter.unusedSimpArgs false
namespace Go
abbrev Aqa:=@Bool.true_and
abbrev Aqb:=@Bool.false_and
abbrev Aqc:=@Bool.false_eq_true
abbrev Aqd:=@Nat.lt_or_ge
abbrev Aqe:=@Array.getElem?_eq_none
abbrev Aqf:=@List.getElem?_take
abbrev Aqg:=@List.getElem?_drop
abbrev Aqh:=@Nat.add_assoc
abbrev Aqi:=@Array.getElem?_modify
abbrev Aqj:=@List.length_cons
abbrev Aqk:=@Array.toList_setIfInBounds
abbrev Aql:=@List.take_succ_eq_append_getElem
abbrev Aqm:=@List.take_set_of_le
abbrev Aqn:=@List.drop_set_of_lt
abbrev Aqo:=@Nat.le_refl
abbrev Aqp:=@Nat.le_trans
abbrev Aqq:=@Nat.lt_of_lt_of_le
abbrev Aqr:=@List.eq_nil_of_length_eq_zero
abbrev Aqs:=@Nat.zero_mul
abbrev Aqt:=@List.getElem?_eq_none
abbrev Aqu:=@Int.toNat_natCast
abbrev Aqv:=@Nat.mul_one
abbrev Aqw:=@Nat.eq_zero_or_pos
abbrev Aqx:=@Option.map_some
abbrev Aqy:=@Nat.add_mul
abbrev Aqz:=@Nat.mul_le_mul_right
abbrev Awa:=@Array.length_toList
abbrev Awb:=@Nat.zero_add
abbrev Awc:=@List.take_append_of_le_length
abbrev Awd:=@List.take_of_length_le
abbrev Awe:=@List.length_append
abbrev Awf:=@Option.isSome_none
abbrev Awg:=@Nat.eq_of_beq_eq_true
abbrev Awh:=@Option.some.injEq
abbrev Awi:=@Nat.ne_of_beq_eq_false
abbrev Awj:=@Array.getElem?_setIfInBounds_ne
abbrev Awk:=@Sem.run_bind
abbrev Awl:=@Result.andThen_ok
abbrev Awm:=@List.all_cons
abbrev Awn:=@Bool.and_eq_true
abbrev Awo:=@List.map_cons
abbrev Awp:=@Sem.run_pure
abbrev Awq:=@List.foldl_cons
abbrev Awr:=@List.mem_cons
abbrev Aws:=@List.mem_cons_of_mem
abbrev Awt:=@Nat.le_of_ble_eq_true
abbrev Awu:=@List.getElem?_append_left
abbrev Awv:=@List.getElem?_append_right
abbrev Aww:=@Nat.succ_mul
abbrev Awx:=@List.ext_getElem?
abbrev Awy:=@List.getElem?_map
abbrev Awz:=@List.mapM_cons
abbrev Axa:=@Array.mapM_eq_mapM_toList
abbrev Axb:=@List.all_eq_true
abbrev Axc:=@Option.isSome_iff_exists
abbrev Axd:=@Array.ext'
abbrev Axe:=@Int.toNat_of_nonneg
abbrev Axf:=@List.getElem?_toArray
abbrev Axg:=@List.getElem?_cons_zero
abbrev Axh:=@List.getElem?_cons_succ
abbrev Axi:=@Nat.add_zero
abbrev Axj:=@Bool.not_false
abbrev Axk:=@List.forIn_cons
abbrev Axl:=@Nat.one_ne_zero
abbrev Axm:=@Option.getD_some
abbrev Axn:=@List.drop_drop
abbrev Axo:=@List.mem_of_getElem?
abbrev Axp:=@Array.getElem?_toList
abbrev Axq:=@List.forall_mem_cons
abbrev Axr:=@Array.getD_eq_getD_getElem?
abbrev Axs:=@List.mem_singleton
abbrev Axt:=@List.mem_filter
abbrev Axu:=@Option.isNone_iff_eq_none
abbrev Axv:=@Nat.beq_refl
abbrev Axw:=@List.cons.injEq
abbrev Axx:=@List.mem_append
abbrev Axy:=@List.getElem?_eq_getElem
abbrev Axz:=@List.mem_map
abbrev Aya:=@List.map_map
abbrev Ayb:=@Bool.and_true
abbrev Ayc:=@List.all_nil
abbrev Ayd:=@List.length_nil
abbrev Aye:=@List.flatMap_cons
abbrev Ayf:=@Nat.eq_of_mul_eq_mul_right
abbrev Ayg:=@Nat.zero_le
abbrev Ayh:=@List.getElem?_eq_some_iff
abbrev Ayi:=@List.getElem?_of_mem
abbrev Ayj:=@List.nil_append
abbrev Ayk:=@List.not_mem_nil
abbrev Ayl:=@List.flatMap_append
abbrev Aym:=@List.take_add_one
abbrev Ayn:=@List.take_append_drop
abbrev Ayo:=@List.drop_eq_getElem_cons
abbrev Ayp:=@List.nodup_cons
abbrev Ayq:=@List.drop_eq_nil_of_le
abbrev Ayr:=@List.all_append
abbrev Ays:=@List.length_take
abbrev Ayt:=@List.append_nil
abbrev Ayu:=@List.getElem?_set_self
abbrev Ayv:=@List.length_map
abbrev Ayw:=@List.map_append
abbrev Ayx:=@List.append_assoc
abbrev Ayy:=@List.getElem_mem
abbrev Ayz:=@Bool.and_assoc
abbrev Aza:=@Option.map_eq_some_iff
abbrev Azb:=@List.sum_cons
end Go
namespace Go.Fw
open Go
abbrev Zf:=Array Obj
abbrev HP:=Zf->Prop
def Zf.cell(h:Zf)(b o:Nat):Option Value:=
  match h[b]? with
  |some (.cells c _ _)=>c[o]?
  |_=>none
def Zf.froz(h:Zf)(b o:Nat):Bool:=
  match h[b]? with
  |some (.cells _ _ (lo,hi))=>decide (lo<=o)&&decide (o<hi)
  |_=>false
def Zf.put(h:Zf)(b o:Nat)(v:Value):Zf:=
  h.modify b λ
    | .cells c e f=>.cells (c.setIfInBounds o v) e f
    |x=>x
def Zf.puts(h:Zf)(b:Nat):Nat->List Value->Zf
  |_,[]=>h
  |o,v::vs=>(h.put b o v).puts b (o+1) vs
def Zf.has(h:Zf)(b:Nat):Nat->List Value->Prop
  |_,[]=>True
  |o,v::vs=>h.cell b o=some v/\h.has b (o+1) vs
def Zf.free(h:Zf)(b:Nat):Nat->Nat->Prop
  |_,0=>True
  |o,n+1=>((∃u,h.cell b o=some u)/\h.froz b o=false)/\h.free b (o+1) n
structure Sl where
  ptr:Option Addr
  len:Nat
  cap:Nat
def Zs:Value->Bool
  | .agg _| .tuple _=>false
  |_=>true
def Zk(b:Bool)(A B:Prop):Prop:=(b=true->A)/\(b=false->B)
def Zc(n:Int)(K:Int->Prop):Prop:=K n
def Zq(b:Bool)(K:Bool->Prop):Prop:=K b
def ldI(h:Zf)(b o:Nat)(k:IntKind)(K:Int->Prop):Prop:=∃n,h.cell b o=some (.int k n)/\K n
def ldB(h:Zf)(b o:Nat)(K:Bool->Prop):Prop:=∃x,h.cell b o=some (.bool x)/\K x
def ldS(h:Zf)(b o:Nat)(K:ByteArray->Prop):Prop:=∃x,h.cell b o=some (.string x)/\K x
def ldP(h:Zf)(b o:Nat)(K:Option Addr->Prop):Prop:=∃x,h.cell b o=some (.pointer x)/\K x
def ldL(h:Zf)(b o:Nat)(K:Sl->Prop):Prop:=∃x:Sl,h.cell b o=some (.slice x.ptr x.len x.cap)/\K x
def ldM(h:Zf)(b o:Nat)(K:Option Nat->Prop):Prop:=∃x,h.cell b o=some (.map x)/\K x
def ldV(h:Zf)(b o:Nat)(K:Value->Prop):Prop:=∃x,h.cell b o=some x/\K x
def Ze(p:Option Addr)(K:Nat->Nat->Prop):Prop:=∃b o,p=some ⟨b,o,none⟩/\K b o
def st(h:Zf)(b o:Nat)(v:Value)(K:Zf->Prop):Prop:=
  (∃u,h.cell b o=some u)/\h.froz b o=false/\Zs v=true/\K (h.put b o v)
def sts(h:Zf)(b o:Nat)(vs:List Value)(K:Zf->Prop):Prop:=
  h.free b o vs.length/\vs.all Zs=true/\K (h.puts b o vs)
def Yk(p:Option Addr)(l:Nat)(i:Int)(size:Nat)(K:Nat->Nat->Prop):Prop:=
  ∃b o,p=some ⟨b,o,none⟩/\0<=i/\i<l/\K b (o+i.toNat*size)
def ZOY(l:Nat)(i:Int)(K:Nat->Prop):Prop:=0<=i/\i<l/\K i.toNat
def ZEB(s:ByteArray)(i:Int)(K:Int->Prop):Prop:=∃x,0<=i/\s[i.toNat]?=some x/\K (UInt8.toNat x)
def Zx(p:Prop)(K:Prop):Prop:=p/\K
def ZjH(p:Option Addr)(l m size:Nat):Option Addr:=if m=l then p else p.map (·.add (l*size))
def slc(p:Option Addr)(cap size:Nat)(lo hi a:Int)(K:Sl->Prop):Prop:=
  0<=lo/\lo<=hi/\hi<=a/\a<=cap/\K ⟨ZjH p lo.toNat a.toNat size,hi.toNat- lo.toNat,a.toNat- lo.toNat⟩
def ZSy(s:ByteArray)(lo hi:Int)(K:ByteArray->Prop):Prop:=
  0<=lo/\lo<=hi/\hi<=s.size/\K (s.extract lo.toNat hi.toNat)
def ZBV(k:IntKind)(x y:Int):Int:=k.wrap (x*2 ^ (min y.toNat k.bits))
def Zlr(k:IntKind)(x y:Int):Int:=x.fdiv (2 ^ (min y.toNat k.bits))
def Zzr(k:IntKind)(x y:Int):Int:=k.wrap (BitVec.toNat (BitVec.ofInt k.bits x &&& BitVec.ofInt k.bits y))
def orV(k:IntKind)(x y:Int):Int:=k.wrap (BitVec.toNat (BitVec.ofInt k.bits x|||BitVec.ofInt k.bits y))
def ZAI(k:IntKind)(x y:Int):Int:=k.wrap (BitVec.toNat (BitVec.ofInt k.bits x ^^^ BitVec.ofInt k.bits y))
def ZPf(k:IntKind)(x y:Int):Int:=k.wrap (BitVec.toNat (BitVec.ofInt k.bits x &&& ~~~ BitVec.ofInt k.bits y))
def ZPL(v:Value)(pan:Value->Zf->Prop)(h:Zf):Prop:=match v with
  | .iface t u=>pan (.iface t u) h
  |_=>False
def ZsE(x y z:Int):Int:=Int.ofNat ((x.toNat+y.toNat+z.toNat) % 18446744073709551616)
def Zsu(x y z:Int):Int:=Int.ofNat ((x.toNat+y.toNat+z.toNat) / 18446744073709551616)
def Z2(x y:ByteArray):Bool:=x.toList==y.toList
def ZqT(x y:Int):Int:=if y<x then y else x
def ZiE(x y:Int):Int:=if y>x then y else x
def ZSF(x y:ByteArray)(K:ByteArray->Prop):Prop:=x.size+y.size<=9223372036854775807/\K (x++y)
def ZfB(s:ByteArray):List Value:=s.data.toList.map λb=>Value.int .u8 b.toNat
def rdS(x:Sl)(size:Nat)(h:Zf)(K:List Value->Prop):Prop:=
  (x.len=0/\K [])\/∃b o l,x.ptr=some ⟨b,o,none⟩/\l.length=x.len*size/\h.has b o l/\K l
def XR(zs:List Value)(n:Nat):List Value:=(List.replicate n zs).flatten
def app(elem:TypeId)(size bytes:Nat)(zs:List Value)(s:Sl)(n:Nat)(new:List Value)(h:Zf)(K:Sl->Zf->Prop):Prop:=
  (s.len+n<=s.cap->
    (new=[]/\K ⟨s.ptr,s.len+n,s.cap⟩ h)\/
    (∃b o,s.ptr=some ⟨b,o,none⟩/\h.free b (o+s.len*size) new.length/\new.all Zs=true/\K ⟨s.ptr,s.len+n,s.cap⟩ (h.puts b (o+s.len*size) new)))/\
  (s.cap<s.len+n->(s.len+n)*bytes<=140737488355328/\s.len+n<=140737488355328/\rdS s size h λold=>
    ∀ cap,s.len+n<=cap->cap<9223372036854775808 ->
      K ⟨some ⟨h.size,0,none⟩,s.len+n,cap⟩ (h.push (.cells (old++new++XR zs (cap- (s.len+n))).toArray elem)))
def mkS(elem:TypeId)(bytes:Nat)(zs:List Value)(l c:Int)(h:Zf)(K:Sl->Zf->Prop):Prop:=
  0<=l/\l<=c/\c*bytes<=281474976710656/\c<=281474976710656/\
   K ⟨some ⟨h.size,0,none⟩,l.toNat,c.toNat⟩ (h.push (.cells (XR zs c.toNat).toArray elem))
def b2s(x:Sl)(h:Zf)(K:ByteArray->Prop):Prop:=
  (x.len=0/\K ByteArray.empty)\/∃b o s,x.ptr=some ⟨b,o,none⟩/\s.size=x.len/\h.has b o (ZfB s)/\K s
def s2b(elem:TypeId)(s:ByteArray)(h:Zf)(K:Sl->Zf->Prop):Prop:=
  s.size<9223372036854775808/\∀cap,s.size<=cap->cap<9223372036854775808 ->
    K ⟨some ⟨h.size,0,none⟩,s.size,cap⟩ (h.push (.cells (ZfB s++List.replicate (cap- s.size) (Value.int .u8 0)).toArray elem (cap,cap+1)))
def Zf.frz(h:Zf)(b:Nat):Zf:=
  h.modify b λ
    | .cells c e _=>.cells c e (c.size,c.size+1)
    |x=>x
def ZOT(p:Option Addr)(h:Zf)(K:Zf->Prop):Prop:=
  ∃b o c e,p=some ⟨b,o,none⟩/\h[b]?=some (.cells c e (0,0))/\K (h.frz b)
def newC(h:Zf)(cells:List Value)(t:TypeId)(K:Nat->Zf->Prop):Prop:=K h.size (h.push (.cells cells.toArray t))
def Zhj(d:TypeDesc)(h:Zf)(m:Option Nat)(key:Value)(K:Option Value->Prop):Prop:=
  (m=none->K none)/\∀b,m=some b->∃es c r,h[b]?=some (.map es c)/\Instr.findNow d key es.toList 0=some r/\K (r.map (·.2))
def ZaF:List TypeDesc->List Value->Prop
  |[],[]=>True
  |d::a,v::vs=>MapKept.IsKey d v/\ZaF a vs
  |_,_=>False
def ZkJ(a:List TypeDesc)(v:Value):Prop:=∃cs:List Value,v= .agg cs.toArray/\ZaF a cs
def ZjC:Value->Value->Bool
  | .int _ a,.int _ b=>a==b
  | .string a,.string b=>Z2 a b
  | .bool a,.bool b=>a==b
  |_,_=>false
def Zfa:List Value->List Value->Bool
  |[],[]=>true
  |v::vs,w::ws=>bif ZjC v w then Zfa vs ws else false
  |_,_=>false
def ZmA(k:List Value):Value->Bool
  | .agg cs=>Zfa k cs.toList
  |_=>false
def ZhE(k:List Value):List MapEntry->Nat->Option (Nat×Value)
  |[],_=>none
  |e::es,i=>bif ZmA k e.key then some (i,e.val)else ZhE k es (i+1)
def ZbA(a:List TypeDesc)(h:Zf)(m:Option Nat)(key:List Value)(K:Option Value->Prop):Prop:=
  (m=none->K none)/\∀b,m=some b->∃es c,h[b]?=some (.map es c)/\(∀x,x∈es.toList->ZkJ a x.key)/\K ((ZhE key es.toList 0).map (·.2))
def Zyd(v:Value)(K:Bool->Prop):Prop:=(v= .nilIface/\K true)\/∃t u,v= .iface t u/\K false
def Zye(v:Value)(K:Bool->Prop):Prop:=(v= .nilFunc/\K true)\/∃f a b,v= .func f a b/\K false
def asI(v:Value)(k:IntKind)(K:Int->Prop):Prop:=∃n,v= .int k n/\K n
def asB(v:Value)(K:Bool->Prop):Prop:=∃x,v= .bool x/\K x
def asS(v:Value)(K:ByteArray->Prop):Prop:=∃x,v= .string x/\K x
def asP(v:Value)(K:Option Addr->Prop):Prop:=∃x,v= .pointer x/\K x
def asL(v:Value)(K:Sl->Prop):Prop:=∃x:Sl,v= .slice x.ptr x.len x.cap/\K x
def asM(v:Value)(K:Option Nat->Prop):Prop:=∃x,v= .map x/\K x
def asT(v:Value)(t:TypeId)(K:Value->Prop):Prop:=∃x,v= .iface t x/\K x
def ZfD(h:Zf)(K:Nat->Zf->Prop):Prop:=K h.size (h.push (.map #[] 0))
def ZIA(es:Array MapEntry)(c:Nat)(key v:Value):Option (Nat×Value)->Obj
  |some (i,_)=>.map (es.modify i λe=>{e with key:=key,val:=v}) c
  |none=>.map (es.push {key:=key,val:=v,born:=c}) (c+1)
def Zj0(d:TypeDesc)(h:Zf)(m:Option Nat)(key v:Value)(K:Zf->Prop):Prop:=
  ∃b es c r,m=some b/\h[b]?=some (.map es c)/\(∀x,x∈es.toList->MapKept.IsKey d x.key)/\Instr.findNow d key es.toList 0=some r/\K (h.setIfInBounds b (ZIA es c key v r))
def Zh7(a:List TypeDesc)(h:Zf)(m:Option Nat)(key:List Value)(v:Value)(K:Zf->Prop):Prop:=
  ∃b es c,m=some b/\h[b]?=some (.map es c)/\(∀x,x∈es.toList->ZkJ a x.key)/\K (h.setIfInBounds b (ZIA es c (.agg key.toArray) v (ZhE key es.toList 0)))
def ZPR(es:Array MapEntry)(c:Nat):Option (Nat×Value)->Obj
  |some (i,_)=>.map (es.eraseIdxIfInBounds i) c
  |none=>.map es c
def ZnS(d:TypeDesc)(h:Zf)(m:Option Nat)(key:Value)(K:Zf->Prop):Prop:=
  (m=none->K h)/\∀b,m=some b->∃es c r,h[b]?=some (.map es c)/\Instr.findNow d key es.toList 0=some r/\K (h.setIfInBounds b (ZPR es c r))
def ZPS(h:Zf)(m:Option Nat)(K:Zf->Prop):Prop:=
  (m=none->K h)/\∀b,m=some b->∃es c,h[b]?=some (.map es c)/\K (h.setIfInBounds b (.map #[] c))
def ZFB(s:Sl)(zs:List Value)(h:Zf)(K:Zf->Prop):Prop:=
  (s.ptr=none/\K h)\/(s.len=0/\K h)\/
  ∃b o,s.ptr=some ⟨b,o,none⟩/\h.free b o (XR zs s.len).length/\(XR zs s.len).all Zs=true/\K (h.puts b o (XR zs s.len))
def rgM(h:Zf)(m:Option Nat)(K:Nat->Zf->Prop):Prop:=
  (m=none->K h.size (h.push (.mapIter none 0 #[] 0)))/\∀b,m=some b->∃es c,h[b]?=some (.map es c)/\K h.size (h.push (.mapIter (some b) c #[] c))
def ZEj(h:Zf)(r:Nat)(T:Value->Value->Zf->Prop)(F:Prop):Prop:=
  (∃s seen c,h[r]?=some (.mapIter none s seen c)/\F)\/
  ∃ a since seen c0 es clock,h[r]?=some (.mapIter (some a) since seen c0)/\h[a]?=some (.map es clock)/\(∀x,x∈es.toList->x.born<since)/\since<=c0/\
    ((leftOf es seen).size=0->F)/\∀e,e∈(leftOf es seen).toList->T e.key e.val (h.setIfInBounds r (.mapIter (some a) since (seen.push e.born) clock))
def ZO8(h:Zf)(r:Nat)(K:Value->Value->Prop):Prop:=
  ∃(a since:Nat) (seen:Array Nat) (es:Array MapEntry) (clock:Nat) (e:MapEntry),h[r]?=some (.mapIter (some a) since (seen.push e.born) clock)/\h[a]?=some (.map es clock)/\e∈es.toList/\(es.toList.map (·.born)).Nodup/\K e.key e.val
def ZFx(v:Value)(f:Nat)(P:Prop):Prop:=v= .func (.func f) #[] #[]/\P
def exG{ρ:Type}(v:Value)(mk:ρ->Value)(K:ρ->Prop):Prop:=∃r,v=mk r/\K r
def ZHm(h:Zf)(m:Option Nat)(K:Int->Prop):Prop:=
  (m=none->K 0)/\∀b,m=some b->∃es c,h[b]?=some (.map es c)/\K (es.size:Int)
def ZyH(x:Value)(h:Zf)(K:Value->Zf->Prop):Prop:=
  ∃t b es c,x= .iface t (.map (some b))/\h[b]?=some (.map es c)/\K (.iface t (.map (some h.size))) (h.push (.map es c))
def ZxE{ρ:Type}(m:(ρ->Zf->Prop)->Zf->Prop)(h:Zf)(K:ρ->Prop):Prop:=
  ∃r,m (λa h'=>a=r/\h'=h) h/\K r
def Zo(h:Zf):List (Nat×Nat×Value)->Prop
  |[]=>True
  |(b,o,v)::r=>h.cell b o=some v/\Zo h r
def Zlh(A B:Prop):Prop:=A/\B
def ZdC(r:Loop)(st:LoopState)(p:Option Code):Obj:=.loop {r with state:=st,pending:=p}
def Zv8(h:Zf)(l:Nat)(r:Loop)(st:LoopState)(p:Option Code)(K:Prop):Prop:=h[l]?=some (ZdC r st p)/\K
def Zns(h:Zf)(l:Nat)(o:Obj):Zf:=h.setIfInBounds l o
abbrev Yld:=Nat->List Value->(Bool->Zf->Prop)->Zf->Prop
def Zpb(r:Loop)(l:Nat)(n:Nat)(body:List Value->Zf->(Option Code->Zf->Prop)->Prop):Yld:=λa vs k h=>
  a=l/\vs.length=n/\Zv8 h l r .ready none (
   body vs h λp h'=>Zv8 h' l r .busy none (k p.isNone (Zns h' l (ZdC r (if p.isNone then .ready else .done) p))))
def ZtQ(r:Loop)(l:Nat)(h:Zf)(K:Zf->Prop):Prop:=Zv8 h l r .ready none (K (Zns h l (ZdC r .busy none)))
def Zpp(n:Nat)(it:Yld->Nat->(Zf->Prop)->Zf->Prop)(body:Nat->Loop->List Value->Zf->(Option Code->Zf->Prop)->Prop)(h:Zf)(K:Option Code->Nat->Zf->Prop):Prop:=
  ∀ r:Loop,it (Zpb r (h.size+1) n (body (h.size+1) r)) (h.size+1)
    (λh'=>∃st p,st≠ .busy/\Zv8 h' (h.size+1) r st p (K p h.size (Zns h' (h.size+1) (ZdC r .exhausted p)))) ((h.push (.deferred (some []))).push (ZdC r .ready none))
def Zv7(p:Option Code)(N:Prop)(X:Nat->Prop)(R:Prop):Prop:=match p with
  |none=>N
  |some (.exit id)=>X id
  |some .ret=>R
  |_=>False
def ZyS{ρ:Type}(mk:ρ->List Value)(vs:List Value)(K:ρ->Prop):Prop:=∃r,vs=mk r/\K r
def Zlq(D:Nat)(h:Zf)(K:Zf->Prop):Prop:=h[D]?=some (.deferred (some []))/\K (Zns h D (.deferred none))
def ZP{σ:Type}(body:(σ->Zf->Prop)->σ->Zf->Prop)(s:σ)(h:Zf):Prop:=
  ∃(I:σ->Zf->Prop) (μ:σ->Zf->Nat),I s h/\∀s h,I s h->body (λs' h'=>I s' h'/\μ s' h'<μ s h) s h
def Zf1{σ:Type}(rest:σ->Zf->Prop)(pre:(σ->Zf->Prop)->Prop):Prop:=
  ∃J:σ->Zf->Prop,(∀s h,J s h->rest s h)/\pre J
def setB(d:Nat->Bool)(k:Nat):Nat->Bool:=λi=>bif Nat.beq i k then true else d i
def ZSB{σ:Type}(S:((Nat->Bool)->σ->Zf->Prop)->(Nat->Bool)->σ->Zf->Prop)(F:(Nat->Bool)->σ->Zf->Prop)(h:Zf):Prop:=
  ∃I:(Nat->Bool)->σ->Zf->Prop,(∃s,I (λ_=>false) s h)/\(∀d s h',I d s h'->S I d s h')/\∀d s h',I d s h'->F d s h'
theorem YL{σ:Type}{body:(σ->Zf->Prop)->σ->Zf->Prop}{s:σ}{h:Zf}(I:σ->Zf->Prop)(μ:σ->Zf->Nat)
    (h0:I s h) (a:∀s h,I s h->body (λs' h'=>I s' h'/\μ s' h'<μ s h) s h):ZP body s h:=⟨I,μ,h0,a⟩
theorem ZeK{σ:Type}{rest:σ->Zf->Prop}{pre:(σ->Zf->Prop)->Prop}(J:σ->Zf->Prop)
    (h1:∀s h,J s h->rest s h) (a:pre J):Zf1 rest pre:=⟨J,h1,a⟩
theorem XX{σ:Type}{rest:σ->Zf->Prop}{pre:(σ->Zf->Prop)->Prop}(h:pre rest):Zf1 rest pre:=⟨rest,λ_ _ h=>h,h⟩
end Go.Fw
namespace Go.Fw
open Go
theorem Xh{A B:Prop}(h:A):Zk true A B:=⟨λ_=>h,λe=>by cases e⟩
theorem ZB{A B:Prop}(h:B):Zk false A B:=⟨λe=>(by cases e),λ_=>h⟩
theorem Za{n:Int}{K:Int->Prop}(h:K n):Zc n K:=h
theorem Zd{n:Bool}{K:Bool->Prop}(h:K n):Zq n K:=h
theorem Zn{p:Prop}[Decidable p]{A B:Prop}(h1:p->A)(a:¬p->B):Zk (decide p) A B:=
  ⟨λe=>h1 (of_decide_eq_true e),λe=>a (of_decide_eq_false e)⟩
theorem Zm{b:Bool}{A B:Prop}(e:b=true)(h:A):Zk b A B:=by subst e;exact Xh h
theorem Zh{b:Bool}{A B:Prop}(e:b=false)(h:B):Zk b A B:=by subst e;exact ZB h
theorem Yw{n:Int}(h0: -9223372036854775808<=n)(h1:n<=9223372036854775807):IntKind.wrap .i64 n=n:=by
  unfold IntKind.wrap;have b:(2:Int) ^ IntKind.i64.bits=18446744073709551616:=by decide
  have a:(2:Int) ^ (IntKind.i64.bits- 1)=9223372036854775808:=by decide
  have hs:IntKind.i64.signed=true:=rfl;simp only[b,a,hs,Aqa]
  rcases Int.lt_or_le n 0 with h|h
  ·have:n % 18446744073709551616=n+18446744073709551616:=by omega
   rw[this,if_pos (by simp;omega)];omega
  ·have:n % 18446744073709551616=n:=by omega
   rw[this,if_neg (by simp;omega)]
theorem ZOA{n:Int}(h0:0<=n)(h1:n<256):IntKind.wrap .u8 n=n:=by
  unfold IntKind.wrap;have a:(2:Int) ^ IntKind.u8.bits=256:=by decide
  have hs:IntKind.u8.signed=false:=rfl;simp only[a,hs,Aqb,Aqc,if_false];omega
theorem ZE6{h:Zf}{b o:Nat}{v:Value}(a:h.cell b o=some v):b<h.size:=by
  unfold Zf.cell at a
  rcases Aqd b h.size with hl|hl
  ·exact hl
  ·rw[Aqe hl]at a;cases a
theorem Zwk{h h':Zf}{b:Nat}(he:h'[b]?=h[b]?)(o:Nat):h'.cell b o=h.cell b o:=by unfold Zf.cell;rw[he]
theorem Zsf{h h':Zf}{b:Nat}(he:h'[b]?=h[b]?):∀{l:List Value} {o:Nat},h.has b o l->h'.has b o l
  |[],_,_=>trivial
  |_::_,_,⟨h1,a⟩=>⟨(Zwk he _).trans h1,Zsf he a⟩
theorem Zh9{h:Zf}{b:Nat}:∀{l:List Value} {o i:Nat} {v:Value},h.has b o l->l[i]?=some v->h.cell b (o+i)=some v
  |[],_,_,_,_,hv=>by simp at hv
  |x::l,o,0,v,⟨h1,_⟩,hv=>by simp at hv;subst hv;exact h1
  | x::l,o,i+1,v,⟨_,a⟩,hv=>by
    have:=Zh9 (i:=i) (v:=v) a (by simpa using hv);rw[show o+(i+1)=o+1+i from by omega];exact this
theorem ZuF{h:Zf}{b:Nat}:∀{l:List Value} {o:Nat},(∀i v,l[i]?=some v->h.cell b (o+i)=some v)->h.has b o l
  |[],_,_=>trivial
  |x::l,o,a=>⟨by have:=a 0 x (by simp);simpa using this,ZuF λi v hv=>by have:=a (i+1) v (by simpa using hv);rw[show o+1+i=o+(i+1)from by omega];exact this⟩
theorem Zyl{h:Zf}{b o:Nat}{l:List Value}(c:h.has b o l)(a:l≠[]):b<h.size:=by
  cases l with
  |nil=>exact absurd rfl a
  |cons v l=>exact ZE6 c.1
theorem ZEI{h:Zf}{b o:Nat}{l:List Value}(a:h.has b o l)(k n:Nat):h.has b (o+k) ((l.drop k).take n):=by
  refine ZuF λi v hv=>?_;rw[Aqf]at hv;split at hv
  ·rw[Aqg]at hv;have:=Zh9 a hv;rw[Aqh];exact this
  ·cases hv
theorem ZkI{h:Zf}{b o:Nat}{c:Array Value}{e:TypeId}{f:Nat×Nat}(a:h[b]?=some (.cells c e f)):h.cell b o=c[o]?:=by unfold Zf.cell;rw[a]
theorem Zgu{h:Zf}{b o:Nat}{c:Array Value}{e:TypeId}{f:Nat×Nat}{l:List Value}(a:h[b]?=some (.cells c e f))(hl:∀i v,l[i]?=some v->c[o+i]?=some v):h.has b o l:=
  ZuF λi v hv=>by rw[ZkI a];exact hl i v hv
theorem Zmx{h:Zf}{b:Nat}{c:Array Value}{e:TypeId}(a:h[b]?=some (.cells c e (0,0))):∀{n o:Nat},o+n<=c.size->h.free b o n
  | 0,_,_=>trivial
  | n+1,o,hle=>by
    have d:o<c.size:=by omega
    refine⟨⟨⟨c[o],by rw[ZkI a];simp[d]⟩,?_⟩,Zmx a (by omega)⟩;unfold Zf.froz;rw[a];simp
theorem ZnG{h:Zf}{b o:Nat}{v:Value}{c:Array Value}{e:TypeId}{f:Nat×Nat}(a:h[b]?=some (.cells c e f)):(h.put b o v)[b]?=some (.cells (c.setIfInBounds o v) e f):=by unfold Zf.put;rw[Aqi,if_pos rfl,a];rfl
theorem Zlx{h:Zf}{b o k:Nat}{v:Value}(a:k≠b):(h.put b o v)[k]?=h[k]?:=by unfold Zf.put;rw[Aqi,if_neg (Ne.symm a)]
theorem Zky{h:Zf}{b o:Nat}{v:Value}:(h.put b o v).size=h.size:=by unfold Zf.put;simp
theorem Zlw{h:Zf}{b:Nat}:∀{vs:List Value} {o:Nat},(h.puts b o vs).size=h.size
  |[],_=>rfl
  |v::vs,o=>by unfold Zf.puts;rw[Zlw,Zky]
theorem Zkx{b k:Nat}(a:k≠b):∀{vs:List Value} {h:Zf} {o:Nat},(h.puts b o vs)[k]?=h[k]?
  |[],_,_=>rfl
  |v::vs,h,o=>by unfold Zf.puts;rw[Zkx a,Zlx a]
theorem Zme{b:Nat}{e:TypeId}{f:Nat×Nat}:∀{vs:List Value} {h:Zf} {o:Nat} {c:Array Value},h[b]?=some (.cells c e f)->o+vs.length<=c.size->
    ∃a,(h.puts b o vs)[b]?=some (.cells a e f)/\a.toList=c.toList.take o++vs++c.toList.drop (o+vs.length)
  |[],h,o,c,d,_=>⟨c,d,by simp⟩
  | v::vs,h,o,c,d,hle=>by
    simp only[Aqj]at hle;obtain⟨a,g,hl⟩:=Zme (vs:=vs) (h:=h.put b o v) (o:=o+1) (ZnG d) (by simp;omega);refine⟨a,g,?_⟩;rw[hl];have i:o<c.toList.length:=by simp;omega
    simp only[Aqk,Aqj];rw[Aql (by simp;omega),Aqm (by omega),Aqn (by omega)];simp;omega
theorem Zkz{h:Zf}{x:Obj}{k:Nat}(a:k<h.size):(h.push x)[k]?=h[k]?:=by rw[Array.getElem?_push,if_neg (by omega)]
theorem Zdi{h:Zf}{x:Obj}:(h.push x)[h.size]?=some x:=by simp
structure Ext(h h':Zf):Prop where
  size:h.size<=h'.size
  old:∀k,k<h.size->h'[k]?=h[k]?
theorem Ext.refl(h:Zf):Ext h h:=⟨Aqo _,λ_ _=>rfl⟩
theorem Ext.trans{a b c:Zf}(h:Ext a b)(h':Ext b c):Ext a c:=
  ⟨Aqp h.size h'.size,λk d=>(h'.old k (Aqq d h.size)).trans (h.old k d)⟩
theorem Ext.push(h:Zf)(x:Obj):Ext h (h.push x):=⟨by simp,λ_ a=>Zkz a⟩
structure Upd(S:Nat->Prop)(h h':Zf):Prop where
  size:h.size<=h'.size
  old:∀k,k<h.size->¬S k->h'[k]?=h[k]?
theorem Upd.refl(S:Nat->Prop)(h:Zf):Upd S h h:=⟨Aqo _,λ_ _ _=>rfl⟩
theorem Upd.trans{S:Nat->Prop}{a b c:Zf}(h:Upd S a b)(h':Upd S b c):Upd S a c:=
  ⟨Aqp h.size h'.size,λk d hs=>(h'.old k (Aqq d h.size) hs).trans (h.old k d hs)⟩
theorem Upd.mono{S T:Nat->Prop}{a b:Zf}(h:Upd S a b)(hs:∀k,k<a.size->S k->T k):Upd T a b:=
  ⟨h.size,λk c d=>h.old k c λe=>d (hs k c e)⟩
theorem Ext.upd{a b:Zf}(h:Ext a b)(S:Nat->Prop):Upd S a b:=⟨h.size,λk c _=>h.old k c⟩
theorem Upd.ext{S:Nat->Prop}{a b:Zf}(h:Upd S a b)(hs:∀k,k<a.size->¬S k):Ext a b:=⟨h.size,λk c=>h.old k c (hs k c)⟩
theorem Upd.put(h:Zf)(b o:Nat)(v:Value):Upd (· = b) h (h.put b o v):=⟨by rw[Zky];exact Aqo _,λk _ a=>Zlx a⟩
theorem Upd.puts(h:Zf)(b o:Nat)(vs:List Value):Upd (· = b) h (h.puts b o vs):=⟨by rw[Zlw];exact Aqo _,λk _ a=>Zkx a⟩
theorem Zpx{h:Zf}{cells:List Value}{t:TypeId}{K:Nat->Zf->Prop}(a:K h.size (h.push (.cells cells.toArray t))):newC h cells t K:=a
theorem Ext.then{a b c:Zf}{S:Nat->Prop}(h:Ext a b)(h':Upd S b c)(hs:∀k,S k->a.size<=k):Ext a c:=
  ⟨Aqp h.size h'.size,λk d=>(h'.old k (Aqq d h.size) λe=>by have:=hs k e;omega).trans (h.old k d)⟩
def slV(s:Sl):Value:=.slice s.ptr s.len s.cap
def Sl.blk(s:Sl):Option Nat:=s.ptr.map (·.block)
structure Row(h:Zf)(s:Sl)(size:Nat)(vs:List Value):Prop where
  len:vs.length=s.len*size
  cap:s.len<=s.cap
  big:s.cap<9223372036854775808
  at_:s.len=0\/∃b o,s.ptr=some ⟨b,o,none⟩/\h.has b o vs
theorem Row.nil_of{h:Zf}{s:Sl}{size:Nat}{vs:List Value}(a:Row h s size vs)(h0:s.len=0):vs=[]:=
  Aqr (by rw[a.len,h0,Aqs])
theorem Row.congr{h h':Zf}{s:Sl}{size:Nat}{vs:List Value}(c:Row h s size vs)(he:∀b o,s.ptr=some ⟨b,o,none⟩->vs≠[]->b<h.size->h'[b]?=h[b]?):Row h' s size vs:=by
  refine⟨c.len,c.cap,c.big,?_⟩
  rcases c.at_ with h0|⟨b,o,d,e⟩
  ·exact .inl h0
  ·rcases Classical.em (vs=[])with a|a
   ·subst a;exact .inr ⟨b,o,d,trivial⟩
   ·exact .inr ⟨b,o,d,Zsf (he b o d a (Zyl e a)) e⟩
theorem Row.ext{h h':Zf}{s:Sl}{size:Nat}{vs:List Value}(a:Row h s size vs)(he:Ext h h'):Row h' s size vs:=
  a.congr λb _ _ _ c=>he.old b c
theorem Row.at1{h:Zf}{s:Sl}{vs:List Value}(a:Row h s 1 vs){i:Nat}{v:Value}(hv:vs[i]?=some v):
    ∃b o,s.ptr=some ⟨b,o,none⟩/\i<s.len/\h.cell b (o+i)=some v:=by
  have c:i<vs.length:=by
    rcases Aqd i vs.length with h|h
    ·exact h
    ·rw[Aqt h]at hv;cases hv
  rcases a.at_ with h0|⟨b,o,d,e⟩
  ·rw[a.nil_of h0]at hv;simp at hv
  ·exact⟨b,o,d,by have:=a.len;omega,Zh9 e hv⟩
theorem Row.idx{h:Zf}{s:Sl}{vs:List Value}(c:Row h s 1 vs){i:Int}{n:Nat}(hi:i=n){v:Value}(hv:vs[n]?=some v){K:Nat->Nat->Prop}
    (d:∀b o,s.ptr=some ⟨b,o,none⟩->h.cell b (o+n)=some v->K b (o+n)):Yk s.ptr s.len i 1 K:=by
  obtain⟨b,o,a,e,f⟩:=c.at1 hv;subst hi;refine⟨b,o,a,by omega,by omega,?_⟩;rw[Aqu,Aqv];exact d b o a f
theorem Row.rd{h:Zf}{s:Sl}{size:Nat}{vs:List Value}(a:Row h s size vs){K:List Value->Prop}(c:K vs):rdS s size h K:=by
  rcases a.at_ with h0|⟨b,o,d,e⟩
  ·rw[a.nil_of h0]at c;exact .inl ⟨h0,c⟩
  ·exact .inr ⟨b,o,vs,d,a.len,e,c⟩
theorem Row.nil(h:Zf)(size:Nat):Row h ⟨none,0,0⟩ size []:=⟨by simp,Aqo _,by decide,.inl rfl⟩
theorem Row.slc{h:Zf}{s:Sl}{vs:List Value}(c:Row h s 1 vs){lo hi d:Int}{a b m:Nat}(e:lo=a)(eb:hi=b)(em:d=m)(h1:a<=b)(n:b<=s.len)(f:b<=m)(h3:m<=s.cap){K:Sl->Prop}
    (g:∀s',Row h s' 1 ((vs.drop a).take (b- a))->s'.len=b- a->s'.cap=m- a->(∀k,s'.blk=some k->s.blk=some k)->K s'):Fw.slc s.ptr s.cap 1 lo hi d K:=by
  subst e eb em;refine⟨by omega,by omega,by omega,by omega,?_⟩;have hl:=c.len;refine g _ ⟨?_,?_,?_,?_⟩ ?_ ?_ ?_
  ·simp;omega
  ·simp;omega
  ·have:=c.big;simp;omega
  ·simp only[Aqu]
   rcases Aqw (b- a)with h0|h0
   ·exact .inl h0
   ·right
    rcases c.at_ with p|⟨i,o,j,l⟩
    ·omega
    ·refine ⟨i,o+a,?_,ZEI l a (b- a)⟩;unfold ZjH;rw[if_neg (by omega),j];simp only[Aqx,Aqv];unfold Addr.add;split
     ·rename_i h;subst h;rfl
     ·rfl
  ·simp
  ·simp
  ·intro k;unfold Sl.blk ZjH;split
   ·exact id
   ·cases s.ptr with
    |none=>simp
    |some x=>simp[Addr.add];split<;>exact id
structure Own(h:Zf)(base:Nat)(s:Sl)(size:Nat)(vs:List Value):Prop where
  len:vs.length=s.len*size
  cap:s.len<=s.cap
  big:s.cap<9223372036854775808
  at_:(s.ptr=none/\s.cap=0)\/∃b c e,s.ptr=some ⟨b,0,none⟩/\base<=b/\h[b]?=some (.cells c e (0,0))/\c.size=s.cap*size/\vs=c.toList.take (s.len*size)
theorem Own.row{h:Zf}{base:Nat}{s:Sl}{size:Nat}{vs:List Value}(ho:Own h base s size vs):Row h s size vs:=by
  refine⟨ho.len,ho.cap,ho.big,?_⟩
  rcases ho.at_ with⟨_,h0⟩ |⟨b,c,e,a,_,d,f,hv⟩
  ·exact .inl (by have:=ho.cap;omega)
  ·right;refine⟨b,0,a,Zgu d λi v hi=>?_⟩;rw[hv,Aqf]at hi;split at hi
   ·simpa using hi
   ·cases hi
theorem Own.nil(h:Zf)(base size:Nat):Own h base ⟨none,0,0⟩ size []:=⟨by simp,Aqo _,by decide,.inl ⟨rfl,rfl⟩⟩
theorem Own.congr{h h':Zf}{base:Nat}{s:Sl}{size:Nat}{vs:List Value}(ho:Own h base s size vs)(he:∀b,s.blk=some b->b<h.size->base<=b->h'[b]?=h[b]?):Own h' base s size vs:=by
  refine⟨ho.len,ho.cap,ho.big,?_⟩
  rcases ho.at_ with h0|⟨b,c,e,d,f,a,g⟩
  ·exact .inl h0
  ·refine .inr ⟨b,c,e,d,f,?_,g⟩;rw[he b (by simp[Sl.blk,d]) ?_ f]
   ·exact a
   ·rcases Aqd b h.size with hl|hl
    ·exact hl
    ·rw[Aqe hl]at a;cases a
theorem Own.base{h:Zf}{base a:Nat}{s:Sl}{size:Nat}{vs:List Value}(ho:Own h base s size vs)(i:a<=base):Own h a s size vs:=by
  refine⟨ho.len,ho.cap,ho.big,?_⟩
  rcases ho.at_ with h0|⟨b,c,e,d,f,g⟩
  ·exact .inl h0
  ·exact .inr ⟨b,c,e,d,by omega,g⟩
theorem Own.lt{h:Zf}{base:Nat}{s:Sl}{size:Nat}{vs:List Value}(ho:Own h base s size vs){b:Nat}(a:s.blk=some b):base<=b/\b<h.size:=by
  rcases ho.at_ with⟨d,_⟩ |⟨i,c,e,d,f,g,_⟩
  ·simp[Sl.blk,d]at a
  ·simp [Sl.blk,d]at a;subst a;refine⟨f,?_⟩
   rcases Aqd i h.size with hl|hl
   ·exact hl
   ·rw[Aqe hl]at g;cases g
theorem Zf3(zs:List Value)(n:Nat):(XR zs n).length=n*zs.length:=by simp[XR]
theorem Own.app{h:Zf}{base:Nat}{s:Sl}{size bytes n:Nat}{vs new zs:List Value}{elem:TypeId}{K:Sl->Zf->Prop}
    (ho:Own h base s size vs) (a:new.length=n*size) (j:new.all Zs=true) (hz:zs.length=size) (w:(s.len+n)*bytes<=140737488355328) (hl:s.len+n<=140737488355328) (i:base<=h.size)
    (l:∀s' h',Own h' base s' size (vs++new)->s'.len=s.len+n->Upd (λk=>s.blk=some k) h h'->(s'.blk=s.blk\/s'.blk=some h.size)->K s' h'):
    Fw.app elem size bytes zs s n new h K:=by
  have hlen:=ho.len;have t:=ho.cap;refine⟨λd=>?_,λx=>⟨w,hl,ho.row.rd λcap h1 y=>?_⟩⟩
  ·rcases ho.at_ with⟨m,h0⟩ |⟨b,c,e,m,q,f,u,hv⟩
   ·left
    have v:n=0:=by omega
    have g:new=[]:=Aqr (by rw[a,v,Aqs]);refine⟨g,l _ _ ?_ rfl (Upd.refl _ _) (.inl rfl)⟩;refine⟨by simp[g,v,hlen],d,ho.big,.inl ⟨m,h0⟩⟩
   ·right
    have hle:s.len*size+new.length<=c.size:=by
      rw[u,a,<-Aqy];exact Aqz _ d
    refine⟨b,0,m,Zmx f (by simpa using hle),j,?_⟩;obtain⟨z,r,p⟩:=Zme (vs:=new) (o:=0+s.len*size) f (by simpa using hle);refine l _ _ ⟨?_,d,ho.big,.inr ⟨b,z,e,m,q,r,?_,?_⟩⟩ rfl ((Upd.puts h b _ new).mono λk _ l=>by subst l;simp[Sl.blk,m]) (.inl rfl)
    ·simp[hlen,a,Aqy]
    ·rw[<-u,<-Awa,p];simp;omega
    ·rw[p];simp only[Awb];rw[Aqy,<-a,Awc (by simp;omega),Awd (by simp;omega),hv]
  ·refine l _ _ ⟨by simp[hlen,a,Aqy],h1,y,.inr ⟨h.size,_,elem,rfl,i,Zdi,?_,?_⟩⟩ rfl ((Ext.push h _).upd _) (.inr rfl)
   ·simp only[List.size_toArray,Awe,Zf3,hz,hlen,a];rw[<-Aqy,<-Aqy];congr 1;omega
   ·simp only[];rw[Awc (by simp[hlen,a,Aqy]),Awd (by simp[hlen,a,Aqy])]
theorem Own.newC{h:Zf}{cells:List Value}{t:TypeId}{size n:Nat}(hl:cells.length=n*size)(a:n<9223372036854775808):
    Own (h.push (.cells cells.toArray t)) h.size ⟨some ⟨h.size,0,none⟩,n,n⟩ size cells:=
  ⟨hl,Aqo _,a,.inr ⟨h.size,_,t,rfl,Aqo _,Zdi,by simp[hl],by simp;rw[Awd (by omega)]⟩⟩
theorem Zg7(s:ByteArray):Z2 s s=true:=by unfold Z2;simp
end Go.Fw
namespace Go.Proofs.YtonbfpnngkemiaaGreat
open Go Go.Fw
def Yu(m:Option Nat)(K:Value->Zf->Prop)(h:Zf):Prop:=
  newC h [Value.map m] 86 λb h'=>K (.func (.func 104) #[] #[.pointer (some ⟨b,0,none⟩)]) h'
def Zu2(h:Zf)(m:Nat)(l:List Int):Prop:=
  ∃es a,h[m]?=some (.map es a)/\MapKept.Stamped es a/\es.toList.map (·.key)=l.map (Value.int .i64)/\l.Pairwise (· < ·)/\∀x,x∈l-> -9223372036854775808<=x/\x<9223372036854775808
def ZgS(x:Value)(K:Sl->Zf->Prop)(h:Zf):Prop:=
  ∃ b m l,x= .func (.func 104) #[] #[.pointer (some ⟨b,0,none⟩)]/\h.cell b 0=some (.map (some m))/\Zu2 h m l/\l.length*8<=140737488355328/\
    ∀s h',Own h' h.size s 1 (l.map (Value.int .i64))->Ext h h'->K s h'
end Go.Proofs.YtonbfpnngkemiaaGreat
