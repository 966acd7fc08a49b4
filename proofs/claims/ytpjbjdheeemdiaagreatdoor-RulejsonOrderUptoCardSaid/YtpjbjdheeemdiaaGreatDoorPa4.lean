/- Why a reading is right: each operation, whole. -/
import Derived.Laws.StructEq
import Derived.Test.YtpjbjdheeemdiaaGreatDoorPa3
set_option linter.unusedVariables false
set_option linter.unusedSimpArgs false
namespace Go.Fw
open Go
theorem Zdp (P:Program) (w:World) (t:TypeId) (cs:Array Value):(newRow t cs).run P w = .ok ⟨w.heap.size,0,none⟩ { w with heap:=w.heap.push (.cells cs t)}:=by
  unfold newRow
  simp
theorem ZwI (P:Program) (w:World) (t:TypeId) (v:Value) {i:TypeInfo} (hi:P.info? t=some i) (hv:i.zero=some v) :
    (Instr.alloc t true (.tuple #[])).run P w = .ok (.pointer (some ⟨w.heap.size,0,none⟩)) { w with heap:=w.heap.push (.cells v.cells t)}:=by
  unfold Instr.alloc newVar
  simp [Zau P w t hi hv,Zdp]
theorem ZCO (P:Program) (w:World) (t:TypeId) (v:Value) :
    (Instr.box t v).run P w = .ok (.pointer (some ⟨w.heap.size,0,none⟩)) { w with heap:=w.heap.push (.cells v.cells t)}:=by
  unfold Instr.box newVar
  simp [Zdp]
theorem Zlt (P:Program) (w:World):∀ (l:List Field),(∀ f∈l,∃ i,P.info? f.type=some i) ->
    (l.mapM fun f=>(do pure (f.offset,<- sizeOf f.type):Sem (Nat × Nat))).run P w = .ok (l.map fun f=>(f.offset,P.cellsOf f.type)) w
  | [],_=>by simp
  | f::l,h=>by
    obtain ⟨i,hi⟩:=h f (by simp)
    have ih:=Zlt P w l (fun g hg=>h g (by simp [hg]))
    rw [Axa]
    simp only [Awk,XM P w f.type hi,Awl,Awp,ih,Awo,ZbW P hi]
theorem Zkr (P:Program) (w:World) (t:TypeId) {fs:Array Field} {zs:List Value} {ps:List (Nat × Value)} {l:List (Nat × List Value)}
    (hu:P.underlying t=some (.struct fs)) (hz:Zkm P t=some zs) (hall:(fs.toList.all fun f=>(P.info? f.type).isSome)=true)
    (hf:ZDM (fun i=>(fs.toList[i]?).map fun f=>(f.offset,P.cellsOf f.type)) zs.length ps l) :
    (Instr.build t ps.toArray).run P w = .ok (.agg (Zfk zs l).toArray) w:=by
  obtain ⟨i,v,hi,hv,rfl⟩:=Zdo hz
  unfold Instr.build
  simp only [Awk,Zau P w t hi hv,Awl,Zg P w t hu]
  rw [Axb]
  simp only [Sem.run_map,Zlt P w fs.toList (fun f hf=>by
    have:=Axc.1 hall f hf
    exact Axd.1 this),Awl]
  have:=ZfO (fun (x:Nat)=>((fs.toList.map fun (f:Field)=>(f.offset,P.cellsOf f.type)).toArray)[x]?) v.cells.toList.length ps l v.cells (by simp) (by
    have e:(fun (x:Nat)=>((fs.toList.map fun (f:Field)=>(f.offset,P.cellsOf f.type)).toArray)[x]?)=(fun (i:Nat)=>(fs.toList[i]?).map fun (f:Field)=>(f.offset,P.cellsOf f.type)):=by
      funext x
      simp
    rw [e];exact hf)
  simp only [this]
  rfl
theorem Zlc (P:Program) (w:World) (t:TypeId) {n:Nat} {el:TypeId} {zs:List Value} {ps:List (Nat × Value)} {l:List (Nat × List Value)} {j:TypeInfo}
    (hu:P.underlying t=some (.array n el)) (hz:Zkm P t=some zs) (hj:P.info? el=some j)
    (hf:ZDM (fun i=>some (i*P.cellsOf el,P.cellsOf el)) zs.length ps l) :
    (Instr.build t ps.toArray).run P w = .ok (.agg (Zfk zs l).toArray) w:=by
  obtain ⟨i,v,hi,hv,rfl⟩:=Zdo hz
  unfold Instr.build
  simp only [Awk,Zau P w t hi hv,Awl,Zg P w t hu,XM P w el hj]
  have:=ZfO (fun i=>some (i*j.size,j.size)) v.cells.toList.length ps l v.cells (by simp) (by rw [ZbW P hj] at hf;exact hf)
  simp only [this]
  rfl
theorem Zmg (P:Program) (w:World) (t:TypeId) {n:Nat} {el:TypeId} {zs:List Value} {ps:List (Nat × Value)} {l:List (Nat × List Value)}
    (hu:P.underlying t=some (.slice el)) (hz:Zkm P el=some zs) (hs:zs.length=P.cellsOf el) (hle:n*P.cellsOf el<=Zjq)
    (hf:ZDM (fun i=>some (i*P.cellsOf el,P.cellsOf el)) (n*P.cellsOf el) ps l) :
    (Instr.buildSlice t n ps.toArray).run P w = .ok (.slice (some ⟨w.heap.size,0,none⟩) n n) { w with heap:=w.heap.push (.cells (Zfk (Zbt zs n) l).toArray el)}:=by
  obtain ⟨i,v,hi,hv,rfl⟩:=Zdo hz
  have hsz:=ZbW P hi
  unfold Instr.buildSlice
  simp only [Awk,Zg P w t hu,Awl,XM P w el hi]
  rw [hsz] at hs hle hf
  have h24:¬ (n*i.size>2 ^ 24):=by
    have:(2:Nat) ^ 24=Zjq:=by unfold Zjq;decide
    omega
  have hlen:v.cells.size=i.size:=by simpa using hs
  have fin:∀ z:Array Value,((Array.range (n*i.size)).map (fun x=>z[x % z.size]!)).toList=Zbt v.cells.toList n ->
      Instr.fill (fun j=>some (j*i.size,i.size)) ((Array.range (n*i.size)).map (fun x=>z[x % z.size]!)) ps=some (Zfk (Zbt v.cells.toList n) l).toArray:=by
    intro z hz'
    have:=ZfO (fun j=>some (j*i.size,i.size)) (n*i.size) ps l ((Array.range (n*i.size)).map (fun x=>z[x % z.size]!)) (by simp) hf
    rw [hz'] at this
    exact this
  simp only [if_neg h24]
  by_cases h:n*i.size=0
  ·rw [if_pos h]
   have hz0:Zbt v.cells.toList n=[]:=Aqr (by rw [Zgy];simpa [hlen] using h)
   simp only [Awk,Awp,Awl]
   rw [fin #[] (by rw [hz0];simp [h])]
   simp only [Awk,Zdp,Awl,Awp]
  ·rw [if_neg h]
   simp only [Awk,Zau P w el hi hv,Awp,Awl]
   rw [fin v.cells (Zir v.cells n _ (by rw [hlen]))]
   simp only [Awk,Zdp,Awl,Awp]
theorem ZmP {P:Program} {w:World} {t:TypeId} {b o:Nat} {v:Value} (h:(loadVar t ⟨b,o,none⟩).run P w = .ok v w) :
    (Instr.loadAt t (.pointer (some ⟨b,o,none⟩))).run P w = .ok v w:=by
  unfold Instr.loadAt Instr.sureAddr
  simp [h]
theorem ZqX {P:Program} {w w':World} {t:TypeId} {b o:Nat} {v:Value} (h:(storeVar t ⟨b,o,none⟩ v).run P w = .ok () w') :
    (Instr.storeAt t (.pointer (some ⟨b,o,none⟩)) v).run P w = .ok () w':=by
  unfold Instr.storeAt Instr.sureAddr
  simp [h]
theorem ZqZ {P:Program} {w:World} {s:TypeId} {b o f:Nat} {fs:Array Field} {fd:Field} (hu:P.underlying s=some (.struct fs)) (hf:fs.toList[f]?=some fd)
    (hn:P.cellsOf fd.type≠0):(Instr.fieldAt s (.pointer (some ⟨b,o,none⟩)) f).run P w = .ok (.pointer (some ⟨b,o+fd.offset,none⟩)) w:=by
  unfold Instr.fieldAt Instr.sureAddr fieldPlace
  cases hi:P.info? fd.type with
  | none=>unfold Program.cellsOf at hn;simp [hi] at hn
  | some i =>
    have hf':fs[f]?=some fd:=by simpa using hf
    have h0:i.size≠0:=by rw [<- ZbW P hi];exact hn
    simp only [Awk,Zg P w s hu,Awl,hf',Awp,XM P w _ hi,if_neg h0,Zkl]
theorem ZjL {P:Program} {w:World} {t el:TypeId} {b o l m size:Nat} {k:IntKind} {i:Int} {inf:TypeInfo} (hu:P.underlying t=some (.slice el)) (hi:P.info? el=some inf) (hs:inf.size=size)
    (h0:0<=i) (h1:i<l):(Instr.indexAt t (.slice (some ⟨b,o,none⟩) l m) (.int k i)).run P w = .ok (.pointer (some ⟨b,o+i.toNat*size,none⟩)) w:=by
  unfold Instr.indexAt asIntOf
  simp only [Awk,Awp,Awl,Zg P w t hu]
  simp [h0,h1,XM P w el hi,hs,Zkl]
theorem ZjM {P:Program} {w:World} {t el:TypeId} {b o n size:Nat} {k:IntKind} {i:Int} {inf:TypeInfo} (hu:P.underlying t=some (.array n el)) (hi:P.info? el=some inf) (hs:inf.size=size)
    (h0:0<=i) (h1:i<n):(Instr.indexAt t (.pointer (some ⟨b,o,none⟩)) (.int k i)).run P w = .ok (.pointer (some ⟨b,o+i.toNat*size,none⟩)) w:=by
  unfold Instr.indexAt asIntOf Instr.sureAddr
  simp only [Awk,Awp,Awl,Zg P w t hu]
  simp [h0,h1,XM P w el hi,hs,Zkl]
theorem Zkp {P:Program} {w:World} {t:TypeId} {s:ByteArray} {k:IntKind} {i:Int} {x:UInt8} (hu:P.underlying t=some .string) (h0:0<=i) (hx:s[i.toNat]?=some x) :
    (Instr.index t (.string s) (.int k i)).run P w = .ok (.int .u8 x.toNat) w:=by
  unfold Instr.index asIntOf
  simp only [Awk,Awp,Awl,Zg P w t hu,if_pos h0,hx]
theorem Zn6 {P:Program} {w:World} {s:TypeId} {cs:Array Value} {f:Nat} {fs:Array Field} {fd:Field} {v:Value} {d:TypeDesc} (hu:P.underlying s=some (.struct fs)) (hf:fs.toList[f]?=some fd)
    (hd:P.underlying fd.type=some d) (ha:ZbV (some d)=false) (hv:cs.toList[fd.offset]?=some v):(Instr.field s (.agg cs) f).run P w = .ok v w:=by
  unfold Instr.field part asAgg
  have hf':fs[f]?=some fd:=by simpa using hf
  have hv':cs[fd.offset]?=some v:=by simpa using hv
  simp [Zg P w s hu,hf',Zep P w _ hd,ha,hv']
theorem Zn7 {P:Program} {w:World} {s:TypeId} {cs:Array Value} {f:Nat} {fs:Array Field} {fd:Field} {d:TypeDesc} {inf:TypeInfo} (hu:P.underlying s=some (.struct fs)) (hf:fs.toList[f]?=some fd)
    (hd:P.underlying fd.type=some d) (ha:ZbV (some d)=true) (hi:P.info? fd.type=some inf) :
    (Instr.field s (.agg cs) f).run P w = .ok (.agg ((cs.toList.drop fd.offset).take inf.size).toArray) w:=by
  unfold Instr.field part asAgg
  have hf':fs[f]?=some fd:=by simpa using hf
  simp only [Awk,Zg P w s hu,Awl,hf',Awp,Zep P w _ hd,ha,if_true,XM P w _ hi]
  congr 2
  apply Axe
  simp [List.extract_eq_take_drop]
theorem Zg4 {P:Program} {w:World} {k:IntKind} {i:Int} {y:Nat} {code:BoundsCode} (h0:0<=i) (h1:i<=y):(Instr.sliceBound (.int k i) y code).run P w = .ok i.toNat w:=by
  unfold Instr.sliceBound asIntOf
  simp [h0,h1]
theorem ZwV {d n:Int} {x:Option (Option EV)} (h:ZAD d x=some n):(x=none/\n=d)\/∃ k,x=some (some (.val (.int k n))):=by
  unfold ZAD at h
  split at h
  ·simp only [Awh] at h;exact .inl ⟨rfl,h.symm⟩
  ·simp only [Awh] at h;subst h;exact .inr ⟨_,rfl⟩
  ·cases h
theorem Znq {P:Program} {w:World} {isSlice:Bool} {len cap:Nat} {lo hi mx:Option Value} {l h m:Int}
    (hlo:(lo=none/\l=0)\/∃ k,lo=some (.int k l)) (hhi:(hi=none/\h=len)\/∃ k,hi=some (.int k h)) (hmx:(mx=none/\m=cap)\/∃ k,mx=some (.int k m))
    (hno:hi=none->mx=none) (h0:0<=l) (h1:l<=h) (h2:h<=m) (h3:m<=cap) :
    (Instr.sliceBounds isSlice len cap lo hi mx).run P w = .ok (l.toNat,h.toNat,m.toNat) w:=by
  unfold Instr.sliceBounds
  have e1:(m.toNat:Int)=m:=Axf (by omega)
  have e2:(h.toNat:Int)=h:=Axf (by omega)
  rcases hmx with ⟨rfl,rfl⟩ | ⟨km,rfl⟩
  ·rcases hhi with ⟨rfl,rfl⟩ | ⟨kh,rfl⟩
   ·rcases hlo with ⟨rfl,rfl⟩ | ⟨kl,rfl⟩
    ·simp
    ·simp [Zg4 h0 h1]
   ·rcases hlo with ⟨rfl,rfl⟩ | ⟨kl,rfl⟩
    ·simp only [Awk,Awp,Awl,Zg4 (k:=kh) (y:=cap) (by omega:0<=h) (by omega)]
     simp
    ·simp only [Awk,Awp,Awl,Zg4 (k:=kh) (y:=cap) (by omega:0<=h) (by omega),Zg4 (k:=kl) (y:=h.toNat) h0 (by omega)]
     simp
  ·rcases hhi with ⟨rfl,rfl⟩ | ⟨kh,rfl⟩
   ·cases hno rfl
   ·simp only [Awk,Zg4 (k:=km) (y:=cap) (by omega:0<=m) h3,Awl,Zg4 (k:=kh) (y:=m.toNat) (by omega:0<=h) (by omega)]
    rcases hlo with ⟨rfl,rfl⟩ | ⟨kl,rfl⟩
    ·simp
    ·simp only [Awk,Zg4 (k:=kl) (y:=h.toNat) h0 (by omega),Awl,Awp]
theorem ZjJ {P:Program} {w:World} {t el:TypeId} {p:Option Addr} {len cap size:Nat} {lo hi mx:Option Value} {l h m:Int} {inf:TypeInfo}
    (hu:P.underlying t=some (.slice el)) (hinf:P.info? el=some inf) (hs:inf.size=size)
    (hb:(Instr.sliceBounds true len cap lo hi mx).run P w = .ok (l.toNat,h.toNat,m.toNat) w) :
    (Instr.sliceAt t (.slice p len cap) lo hi mx).run P w = .ok (.slice (ZwA p l.toNat m.toNat size) (h.toNat - l.toNat) (m.toNat - l.toNat)) w:=by
  unfold Instr.sliceAt Instr.slice ZwA
  simp only [Awk,Zg P w t hu,Awl,hb,XM P w el hinf,hs,Awp]
theorem Zi5 {P:Program} {w:World} {t:TypeId} {s:ByteArray} {lo hi:Option Value} {l h:Int} {m:Nat}
    (hu:P.underlying t=some .string) (hb:(Instr.sliceBounds false s.size s.size lo hi none).run P w = .ok (l.toNat,h.toNat,m) w) :
    (Instr.sliceAt t (.string s) lo hi none).run P w = .ok (.string (s.extract l.toNat h.toNat)) w:=by
  unfold Instr.sliceAt Instr.slice
  simp only [Awk,Zg P w t hu,Awl,Awf,Aqc,if_false,hb,Awp]
theorem ZvV {n:Int} (h0:0<=n) (h1:n<=9223372036854775807):IntKind.i64.wrap n=n:=by
  unfold IntKind.wrap
  have hb:(2:Int) ^ IntKind.i64.bits=18446744073709551616:=by decide
  have hb':(2:Int) ^ (IntKind.i64.bits - 1)=9223372036854775808:=by decide
  simp only [hb,hb']
  have:n % 18446744073709551616=n:=Int.emod_eq_of_lt h0 (by omega)
  rw [this]
  have:¬ (n>=9223372036854775808):=by omega
  simp [this]
theorem Zn5 {P:Program} {w:World} {t el:TypeId} {k k':IntKind} {l c:Int} {inf:TypeInfo} {z:Value}
    (hu:P.underlying t=some (.slice el)) (hinf:P.info? el=some inf) (hz:inf.zero=some z) (hlen:z.cells.size=inf.size)
    (h0:0<=l) (h1:l<=c) (h2:c*inf.bytes<=281474976710656) (h3:c<=281474976710656) :
    (Instr.makeSlice t (.int k l) (.int k' c)).run P w = .ok (.slice (some ⟨w.heap.size,0,none⟩) l.toNat c.toNat) { w with heap:=w.heap.push (.cells (Zbt z.cells.toList c.toNat).toArray el)}:=by
  unfold Instr.makeSlice asInt asIntOf
  have wl:IntKind.i64.wrap l=l:=ZvV h0 (by omega)
  have wc:IntKind.i64.wrap c=c:=ZvV (by omega) (by omega)
  have hbig:(2:Int) ^ 48=281474976710656:=by decide
  simp only [Awk,Zg P w t hu,Awl,Awp,Zbu P w el hinf,wl,wc]
  have hc:¬ ((decide (c<0)||decide ((inf.bytes:Int)*c>2 ^ 48)||decide (l<0)||decide (l>c))=true):=by
    have e1:¬ c<0:=by omega
    have e2:(inf.bytes:Int)*c<=281474976710656:=by rw [Int.mul_comm];exact h2
    have e3:¬ l<0:=by omega
    have e4:¬ l>c:=by omega
    simp [e1,e2,e3,e4]
  rw [if_neg hc]
  simp only [Awk,run_askRoom,Awl,XM P w el hinf]
  by_cases hn:c.toNat*inf.size=0
  ·rw [if_pos hn]
   have hz0:Zbt z.cells.toList c.toNat=[]:=Aqr (by rw [Zgy];simpa [hlen] using hn)
   simp only [Awk,Awp,Awl,Zdp]
   have hr:Array.range 0 = #[]:=Array.eq_empty_of_size_eq_zero (by simp)
   rw [hz0]
   simp [hn,hr]
  ·rw [if_neg hn]
   simp only [Awk,Zau P w el hinf hz,Awp,Awl,Zdp]
   have:=Zir z.cells c.toNat (c.toNat*inf.size) (by rw [hlen])
   congr 3
   rw [<- this]
theorem Zm3 {Y6 cap bytes:Nat} (h:cap<Y6) (hb:Y6*bytes<=140737488355328):Builtin.nextslicecap Y6 cap*bytes<=281474976710656:=by
  unfold Builtin.nextslicecap
  split
  ·omega
  ·split
   ·have:2*cap*bytes<=2*(Y6*bytes):=by rw [Axg];exact Nat.mul_le_mul_left 2 (Aqz _ (by omega))
    omega
   ·have key:∀ (r c:Nat),c<=2*Y6->256<=c->Builtin.growBy Y6 r c<=2*Y6:=by
      intro r
      induction r with
      | zero=>intro c hc _;unfold Builtin.growBy;omega
      | succ r ih =>
        intro c hc h256
        unfold Builtin.growBy
        split
        ·omega
        ·exact ih _ (by omega) (by omega)
    have:=key 4 cap (by omega) (by omega)
    have:Builtin.growBy Y6 4 cap*bytes<=2*(Y6*bytes):=by
      rw [<- Axg];exact Aqz _ this
    omega
theorem Zzk {P:Program} {w:World} {x:Sl} {size:Nat} {K:List Value->Prop} (h:rdS x size w.heap K) :
    ∃ l,(Builtin.firstCells size x.len (.slice x.ptr x.len x.cap)).run P w = .ok l.toArray w/\K l:=by
  rcases h with ⟨hp,hk⟩ | ⟨b,o,l,hp,hl,hh,hk⟩
  ·refine ⟨[],?_,hk⟩
   rw [hp]
   cases x.ptr<;>simp [Builtin.firstCells,loadCells,loadCellsFrom]
  ·refine ⟨l,?_,hk⟩
   rw [hp]
   simp only [Builtin.firstCells]
   rw [<- hl]
   exact ZdC P w b o l hh
theorem Zj7 (z:Array Value) (n:Nat):(Builtin.zeroCells z n).toList=Zbt z.toList n:=by
  unfold Builtin.zeroCells
  exact Zir z n _ rfl
theorem ZmQ {P:Program} {w:World} {t el:TypeId} {ts:Array TypeId} {rt:TypeId} {s:Sl} {x:Value} {n:Nat} {new:List Value} {inf:TypeInfo} {z:Value} {K:Sl->Zc->Prop}
    (ht:ts[0]?=some t) (ht1:∀ u,ts[1]?=some u->∃ d,P.underlying u=some d/\∀ k,d≠ .int k)
    (hu:P.underlying t=some (.slice el)) (hinf:P.info? el=some inf) (hz:inf.zero=some z)
    (hlen:(Builtin.lenOf x).run P w = .ok n w) (hnew:∀ w':World,w'.heap=w.heap->(Builtin.firstCells inf.size n x).run P w' = .ok new.toArray w')
    (hk:app el inf.size inf.bytes z.cells.toList s n new w.heap K) :
    ∃ s' w',(Builtin.append_ ts rt #[.slice s.ptr s.len s.cap,x]).run P w = .ok (.slice s'.ptr s'.len s'.cap) w'/\Same w w'/\K s' w'.heap:=by
  obtain ⟨hroom,hgrow⟩:=hk
  have h63:IntKind.i64.max=9223372036854775807:=by decide
  have h48:(2:Nat) ^ 48=281474976710656:=by decide
  have grows:∀ (hgt:s.cap<s.len+n) (W:World),W=w->∃ s' w',
      (do let newCap <- choose (Question.appendCap (s.len+n) s.cap el)
          let __do_lift <- typeInfo el
          askRoom (newCap*__do_lift.bytes)
          let old <- Builtin.firstCells inf.size s.len (Value.slice s.ptr s.len s.cap)
          let new <- Builtin.firstCells inf.size n x
          let __do_lift <- zeroValue el
          let __do_lift <- newRow el (old++new++Builtin.zeroCells __do_lift.cells (newCap - (s.len+n)))
          pure (Value.slice (some __do_lift) (s.len+n) newCap):Sem Value).run P W = .ok (.slice s'.ptr s'.len s'.cap) w'/\Same w w'/\K s' w'.heap:=by
    rintro hgt W rfl
    obtain ⟨hb,hle,hrd⟩:=hgrow hgt
    have hq:(Question.appendCap (s.len+n) s.cap el).forced=false:=rfl
    simp only [Awk,run_choose,hq,Aqc,if_false,Awl]
    generalize hcap:(Question.appendCap (s.len+n) s.cap el).cut (W.tape W.drawn (Question.appendCap (s.len+n) s.cap el))=newCap
    have hc1:s.len+n<=newCap/\newCap<9223372036854775808:=by
      subst hcap
      simp only [Question.cut]
      have:(2:Nat) ^ 63=9223372036854775808:=by decide
      rw [this]
      have:=Nat.mod_lt (W.tape W.drawn (Question.appendCap (s.len+n) s.cap el)) (show 9223372036854775808 - (s.len+n)>0 by omega)
      omega
    obtain ⟨old,hold,hk⟩:=Zzk (P:=P) (w:={ W with drawn:=W.drawn+1 }) hrd
    simp only [Zbu P _ el hinf,Awl,run_askRoom,hold,hnew { W with drawn:=W.drawn+1 } rfl,Zau P _ el hinf hz,Zdp,Awp]
    refine ⟨⟨some ⟨W.heap.size,0,none⟩,s.len+n,newCap⟩,_,rfl,⟨rfl,rfl,rfl⟩,?_⟩
    have:=hk newCap hc1.1 hc1.2
    rw [<- Zj7] at this
    have e:(old++new++(Builtin.zeroCells z.cells (newCap - (s.len+n))).toList).toArray=old.toArray++new.toArray++Builtin.zeroCells z.cells (newCap - (s.len+n)):=by
      apply Axe
      simp
    rw [e] at this
    exact this
  unfold Builtin.append_
  simp only [ht,Axh,Axi,Axj,Awk,Zg P w t hu,Awl,XM P w el hinf]
  have rest:∀ (q:Prop),¬ q->∃ s' w',(if s.len+n<=s.cap then (do
          let new <- Builtin.firstCells inf.size n x
          match s.ptr with
            | some a=>do
              storeCells (a.add (s.len*inf.size)) new.toList
              pure (Value.slice s.ptr (s.len+n) s.cap)
            | _=>pure (Value.slice s.ptr (s.len+n) s.cap):Sem Value) else stuck "").run P w = .ok (.slice s'.ptr s'.len s'.cap) w'/\Same w w'/\K s' w'.heap\/s.cap<s.len+n:=by
    intro _ _
    rcases Aqd s.cap (s.len+n) with hgt | hle
    ·exact ⟨⟨none,0,0⟩,w,.inr hgt⟩
    ·rw [if_pos hle]
     simp only [Awk,hnew w rfl,Awl]
     rcases hroom hle with ⟨hp,hk⟩ | ⟨b,o,hp,hf,ha,hk⟩
     ·refine ⟨⟨s.ptr,s.len+n,s.cap⟩,w,.inl ⟨?_,Same.refl w,hk⟩⟩
      rw [hp]
      cases s.ptr<;>simp [storeCells]
     ·rw [hp]
      refine ⟨⟨some ⟨b,o,none⟩,s.len+n,s.cap⟩,{ w with heap:=Zc.puts w.heap b (o+s.len*inf.size) new },.inl ⟨?_,⟨rfl,rfl,rfl⟩,by rw [hp] at hk;exact hk⟩⟩
      simp only [Zkl,Awk]
      have:=Zeh P b (o+s.len*inf.size) new 0 w (by simpa using hf) ha
      simp only [Axk] at this
      rw [this]
      rfl
  obtain ⟨s₁,w₁,hrest⟩:=rest False id
  cases h1:ts[1]? with
  | none =>
    simp only [Awk,Awp,Awl,Aqc,if_false,hlen,Axl,if_true,false_or]
    rcases Aqd s.cap (s.len+n) with hgt | hle
    ·rw [if_neg (by omega)]
     obtain ⟨hb,hle,_⟩:=hgrow hgt
     simp only [Awk,Zbu P w el hinf,Awl]
     rw [if_neg (by rw [h63];omega)]
     simp only [Awk,Zbu P w el hinf,Awl]
     rw [if_neg (by rw [h48];have:=Zm3 hgt hb;omega)]
     exact grows hgt w rfl
    ·rw [if_pos hle] at hrest ⊢
     exact ⟨s₁,w₁,hrest.resolve_right (by omega)⟩
  | some u =>
    obtain ⟨d,hd,hne⟩:=ht1 u h1
    simp only [Awk,Awp,Zg P w u hd,Awl,Aqc,if_false,hlen,Axl,if_true,false_or]
    rcases Aqd s.cap (s.len+n) with hgt | hle
    ·rw [if_neg (by omega)]
     obtain ⟨hb,hle,_⟩:=hgrow hgt
     simp only [Awk,Zbu P w el hinf,Awl]
     rw [if_neg (by rw [h63];omega)]
     simp only [Awk,Zbu P w el hinf,Awl]
     rw [if_neg (by rw [h48];have:=Zm3 hgt hb;omega)]
     exact grows hgt w rfl
    ·rw [if_pos hle] at hrest ⊢
     exact ⟨s₁,w₁,hrest.resolve_right (by omega)⟩
theorem ZlI (P:Program) (f:Value->ByteArray->Sem (ForInStep ByteArray)) (hf:∀ n s,f (.int .u8 n) s=pure (ForInStep.yield (s.push (UInt8.ofNat n.toNat)))) :
    ∀ (l:List UInt8) (acc:ByteArray) (w:World),(forIn (l.map fun b=>Value.int .u8 b.toNat) acc f).run P w = .ok (l.foldl ByteArray.push acc) w
  | [],acc,w=>by simp
  | x::l,acc,w=>by
    simp only [Awo,Axm,hf,Awk,Awp,Awl,Awq]
    have:=ZlI P f hf l (acc.push x) w
    simpa using this
theorem Zt7 (l:List UInt8):∀ acc:ByteArray,l.foldl ByteArray.push acc=⟨acc.data++l.toArray⟩:=by
  induction l with
  | nil=>intro acc;simp
  | cons x l ih =>
    intro acc
    rw [Awq,ih]
    simp [ByteArray.push]
theorem Zq0 {P:Program} {w:World} {x:Sl} {K:ByteArray->Prop} (h:b2s x w.heap K) :
    ∃ s,(Conv.bytesToString (.slice x.ptr x.len x.cap)).run P w = .ok (.string s) w/\K s:=by
  rcases h with ⟨hp,hk⟩ | ⟨b,o,s,hp,hl,hh,hk⟩
  ·refine ⟨_,?_,hk⟩
   rw [hp]
   cases x.ptr<;>rfl
  ·refine ⟨s,?_,hk⟩
   rw [hp]
   unfold Conv.bytesToString
   have hlen:(Zba s).length=x.len:=by rw [<- hl];unfold Zba;simp
   simp only [Awk,<- hlen,ZdC P w b o _ hh,Awl]
   simp only [List.forIn_toArray]
   unfold Zba
   rw [ZlI P _ (fun _ _=>rfl)]
   simp only [Awl,Zt7]
   simp
theorem ZCN {P:Program} {w:World} {el:TypeId} {s:ByteArray} {K:Sl->Zc->Prop} (h:s2b el s w.heap K) :
    ∃ x w',(Conv.stringToBytes el s).run P w = .ok (.slice x.ptr x.len x.cap) w'/\Same w w'/\K x w'.heap:=by
  obtain ⟨hs,h⟩:=h
  unfold Conv.stringToBytes
  have hq:(Question.appendCap s.size 0 el).forced=false:=rfl
  simp only [Awk,run_choose,hq,Aqc,if_false,Awl]
  generalize hcap:(Question.appendCap s.size 0 el).cut (w.tape w.drawn (Question.appendCap s.size 0 el))=cap
  have hc1:s.size<=cap/\cap<9223372036854775808:=by
    subst hcap
    simp only [Question.cut]
    have:(2:Nat) ^ 63=9223372036854775808:=by decide
    rw [this]
    have:=Nat.mod_lt (w.tape w.drawn (Question.appendCap s.size 0 el)) (show 9223372036854775808 - s.size>0 by omega)
    omega
  simp only [Zdp,Awl]
  have hsz:((s.data.map fun b=>Value.int .u8 b.toNat)++Array.replicate (cap - s.size) (Value.int .u8 0)).size=cap:=by
    simp
    have:s.data.size=s.size:=rfl
    omega
  unfold markStringish
  simp only [Awk,run_shape,Awl,World.shape?,Array.getElem?_push_size,hsz,run_freeze,Awp]
  refine ⟨⟨some ⟨w.heap.size,0,none⟩,s.size,cap⟩,_,rfl,?_,?_⟩
  ·unfold World.freeze
   simp only [Axn,if_false]
   exact ⟨rfl,rfl,rfl⟩
  ·have:=h cap hc1.1 hc1.2
   unfold World.freeze
   simp only [Axn,if_false]
   have e:(w.heap.push (Obj.cells ((s.data.map fun b=>Value.int .u8 b.toNat)++Array.replicate (cap - s.size) (Value.int .u8 0)) el)).modify w.heap.size
       (fun x=>match x with
         | .cells c elem (lo,hi)=> .cells c elem (if (lo ==hi)=true then (cap,cap+1) else (min lo cap,max hi (cap+1)))
         | o=>o)=w.heap.push (.cells (Zba s++List.replicate (cap - s.size) (Value.int .u8 0)).toArray el (cap,cap+1)):=by
     have ea:((s.data.map fun b=>Value.int .u8 b.toNat)++Array.replicate (cap - s.size) (Value.int .u8 0))=(Zba s++List.replicate (cap - s.size) (Value.int .u8 0)).toArray:=by
       apply Axe
       simp [Zba]
     rw [ea]
     apply Array.ext_getElem?
     intro i
     rw [Aqi]
     by_cases hi:w.heap.size=i
     ·subst hi
      simp
     ·rw [if_neg hi]
      simp [Array.getElem?_push,Ne.symm hi]
   exact e▸this
theorem ZeB {b:Bool} {A:Prop} (h:bif b then A else False):b=true/\A:=by
  cases b with
  | true=>exact ⟨rfl,h⟩
  | false=>exact h.elim
theorem Zhx {P:Program} {w:World} {s d:TypeId} {k k' j:IntKind} {n:Int} (hs:P.underlying s=some (.int j)) (hd:P.underlying d=some (.int k)) :
    (convert s d (.int k' n)).run P w = .ok (.int k (k.wrap n)) w:=by
  unfold convert
  simp only [Awk,Zg P w s hs,Zg P w d hd,Awl]
  rfl
theorem Zi6 {P:Program} {w:World} {s d:TypeId} {x:ByteArray} (hs:P.underlying s=some .string) (hd:P.underlying d=some .string) :
    (convert s d (.string x)).run P w = .ok (.string x) w:=by
  unfold convert
  simp only [Awk,Zg P w s hs,Zg P w d hd,Awl]
  rfl
theorem Zlb {P:Program} {w:World} {s d e:TypeId} {x:ByteArray} (hs:P.underlying s=some .string) (hd:P.underlying d=some (.slice e)) (he:P.underlying e=some (.int .u8)) :
    (convert s d (.string x)).run P w=(Conv.stringToBytes e x).run P w:=by
  unfold convert
  simp only [Awk,Zg P w s hs,Zg P w d hd,Zg P w e he,Awl]
theorem Zhy {P:Program} {w:World} {s d e:TypeId} {p:Option Addr} {l m:Nat} (hs:P.underlying s=some (.slice e)) (hd:P.underlying d=some .string) (he:P.underlying e=some (.int .u8)) :
    (convert s d (.slice p l m)).run P w=(Conv.bytesToString (.slice p l m)).run P w:=by
  unfold convert
  simp only [Awk,Zg P w s hs,Zg P w d hd,Zg P w e he,Awl]
theorem Zkq {P:Program} {w:World} {s e e':TypeId} {b o l m:Nat} {c:Array Value} {t:TypeId} (hs:P.underlying s=some (.slice e')) (hd:P.underlying s=some (.slice e)) (he:P.underlying e=some (.int .u8))
    (hb:w.heap[b]?=some (.cells c t (0,0))):(convert s s (.slice (some ⟨b,o,none⟩) l m)).run P w = .ok (.slice (some ⟨b,o,none⟩) l m) { w with heap:=Zc.frz w.heap b }:=by
  unfold convert
  simp only [Awk,Zg P w s hs,Zg P w e' (by rw [hs] at hd;cases hd;exact he),Awl,BEq.rfl]
  unfold markStringish
  have hshape:w.shape? b=some (t,c.size):=by unfold World.shape?;rw [hb]
  simp only [Awk,run_shape,hshape,Awl,run_freeze,Awp]
  have hfz:World.freeze w { block:=b,off:=c.size } 1={ w with heap:=Zc.frz w.heap b }:=by
    unfold World.freeze Zc.frz
    simp only [Axn,if_false]
    refine congrArg (fun h=>({ w with heap:=h }:World)) ?_
    apply Array.ext_getElem?
    intro i
    rw [Aqi,Aqi]
    by_cases hi:b=i
    ·subst hi
     rw [if_pos rfl,if_pos rfl,hb]
     simp
    ·rw [if_neg hi,if_neg hi]
  rw [hfz]
def Val (c:Cfg) (o:Oper) (a:Act) (w:World) (K:EV->Zc->Prop):Prop :=
  ∃ v w',(execOp a.eval o).run c.P w = .ok (.value v.v) w'/\Same w w'/\K v w'.heap
theorem Val.wp {c:Cfg} {o:Oper} {a:Act} {w:World} {K:EV->Zc->Prop} {next:Act->World->Prop} {Q:Exit->Act->World->Prop}
    (h:Val c o a w K) (hn:∀ v w',Same w w'->K v w'.heap->next (a.put o.dst v.v) w'):o.wpIn (fen c.rnd) 0 c.P a w next Q :=
  let ⟨v,_,hr,hs,hk⟩:=h
  ZAl hr (hn v _ hs hk)
theorem Val.of {c:Cfg} {o:Oper} {a:Act} {w w':World} {K:EV->Zc->Prop} {v:EV} {s:Sem Value} (he:execOp a.eval o=(do pure (.value (<- s)))) (hr:s.run c.P w = .ok v.v w') (hs:Same w w') (hk:K v w'.heap) :
    Val c o a w K:=⟨v,w',by rw [he];exact ZwH hr,hs,hk⟩
def ZrP (c:Cfg) (o:Oper) (a:Act) (h:Zc) (K:EV->Zc->Prop):Prop :=
  ∃ v:EV,(∀ w:World,w.heap=h->(execOp a.eval o).run c.P w = .ok (.value v.v) w)/\K v h
def Zd1 (c:Cfg) (o:Oper) (a:Act) (h:Zc) (K:EV->Zc->Prop):Prop :=
  ∃ v:EV,(∀ w:World,True->(execOp a.eval o).run c.P w = .ok (.value v.v) w)/\K v h
theorem Zd1.q {c:Cfg} {o:Oper} {a:Act} {h:Zc} {K:EV->Zc->Prop} (hp:Zd1 c o a h K):ZrP c o a h K :=
  let ⟨v,hr,hk⟩:=hp
  ⟨v,fun w _=>hr w trivial,hk⟩
theorem Zd1.of {c:Cfg} {o:Oper} {a:Act} {h:Zc} {K:EV->Zc->Prop} {v:EV} {s:Sem Value} (he:execOp a.eval o=(do pure (.value (<- s)))) (hr:∀ w:World,True->s.run c.P w = .ok v.v w) (hk:K v h) :
    Zd1 c o a h K:=⟨v,fun w hw=>by rw [he];exact ZwH (hr w hw),hk⟩
theorem ZrP.val {c:Cfg} {o:Oper} {a:Act} {w:World} {K:EV->Zc->Prop} (h:ZrP c o a w.heap K):Val c o a w K :=
  let ⟨v,hr,hk⟩:=h
  ⟨v,w,hr w rfl,Same.refl w,hk⟩
theorem Zd1.val {c:Cfg} {o:Oper} {a:Act} {w:World} {K:EV->Zc->Prop} (h:Zd1 c o a w.heap K):Val c o a w K:=h.q.val
theorem ZrP.of {c:Cfg} {o:Oper} {a:Act} {h:Zc} {K:EV->Zc->Prop} {v:EV} {s:Sem Value} (he:execOp a.eval o=(do pure (.value (<- s)))) (hr:∀ w:World,w.heap=h->s.run c.P w = .ok v.v w) (hk:K v h) :
    ZrP c o a h K:=⟨v,fun w hw=>by rw [he];exact ZwH (hr w hw),hk⟩
section
variable {c:Cfg} {e:Env} {a:Act} {w:World} {h:Zc} {K:EV->Zc->Prop} {dst:Option Tmp} {type:TypeId} {pos:String} {after:Array Edge} {guard:Option (Nat × Bool)}
theorem ZnL (hag:Agr c.n e a) {x:Operand} (hk:opP c (.move x) e h K):Zd1 c ⟨dst,.move x,type,pos,after,guard⟩ a h K:=by
  simp only [opP] at hk
  split at hk
  ·rename_i v hv
   exact ⟨v,fun w hw=>by simp [execOp,hag.ev hv],hk⟩
  ·exact hk.elim
theorem ZjE (hag:Agr c.n e a) {x:Operand} (hk:opP c (.assign x) e h K):Zd1 c ⟨dst,.assign x,type,pos,after,guard⟩ a h K:=by
  simp only [opP] at hk
  split at hk
  ·rename_i k n hv
   exact ⟨.val (.int k n),fun w hw=>by simp [execOp,hag.ev hv],hk⟩
  ·rename_i b hv
   exact ⟨.val (.bool b),fun w hw=>by simp [execOp,hag.ev hv],hk⟩
  ·rename_i v _ _ hv
   exact ⟨v,fun w hw=>by simp [execOp,hag.ev hv],hk⟩
  ·exact hk.elim
theorem ZnK (hag:Agr c.n e a) {x y z:Operand} (hk:opP c (.pick x y z) e h K):Zd1 c ⟨dst,.pick x y z,type,pos,after,guard⟩ a h K:=by
  simp only [opP] at hk
  split at hk
  ·rename_i u hx hy
   refine ⟨u,fun w hw=>?_,hk⟩
   simp only [execOp,hag.ev hx,hag.ev hy]
   rfl
  ·rename_i u hx hy
   refine ⟨u,fun w hw=>?_,hk⟩
   simp only [execOp,hag.ev hx,hag.ev hy]
   rfl
  ·rename_i b u v hx hu hv
   split at hk
   ·rename_i p q hp hq
    refine ⟨_,fun w hw=>?_,hk⟩
    simp only [execOp,hag.ev hx,hag.ev hu,hag.ev hv,hp,hq]
    cases b<;>rfl
   ·exact hk.elim
  ·exact hk.elim
theorem Zwf {t:TypeId} (hk:opP c (.alloc t) e w.heap K):Val c ⟨dst,.alloc t,type,pos,after,guard⟩ a w K:=by
  simp only [opP] at hk
  split at hk
  ·rename_i zs hz
   obtain ⟨i,v,hi,hv,rfl⟩:=Zdo hz
   exact .of (v:= .adr w.heap.size 0) rfl (ZwI c.P w t v hi hv) ⟨rfl,rfl,rfl⟩ hk
  ·exact hk.elim
theorem ZCx (hag:Agr c.n e a) {t:TypeId} {x:Operand} (hk:opP c (.box t x) e w.heap K):Val c ⟨dst,.box t x,type,pos,after,guard⟩ a w K:=by
  simp only [opP] at hk
  split at hk
  ·rename_i v hv
   refine .of (v:= .adr w.heap.size 0) rfl (ZCO c.P w t _) ⟨rfl,rfl,rfl⟩ ?_
   rw [hag.ev hv]
   cases hd:Zxx (c.P.underlying t) with
   | true =>
     rw [hd] at hk
     obtain ⟨h1,hk⟩:=(show Y6 _ _ from hk)
     have:v.v.cells=[v.v].toArray:=by
       revert h1
       cases v.v<;>intro h1<;>first | rfl | cases h1
     rw [this]
     exact hk
   | false =>
     rw [hd] at hk
     rw [ZoI]
     exact hk
  ·exact hk.elim
theorem Zls (ps:Array (Nat × Operand)) (a:Act) (f:Nat × Operand->Nat × Value) (hf:∀ x,f x=(x.1,a.eval x.2)):ps.map f=(ps.toList.map fun x=>(x.1,a.eval x.2)).toArray:=by
  apply Axe
  simp [funext hf]
theorem Zzy {o:Op} {F:Array (Nat × Value)->Sem Value} {ps:Array (Nat × Operand)} {f:Nat × Operand->Nat × Value} {v:EV} {w':World}
    (he:execOp a.eval ⟨dst,o,type,pos,after,guard⟩=(do pure (.value (<- F (ps.map f))))) (hf:∀ x,f x=(x.1,a.eval x.2))
    (hr:(F (ps.toList.map fun x=>(x.1,a.eval x.2)).toArray).run c.P w = .ok v.v w') (hs:Same w w') (hk:K v w'.heap):Val c ⟨dst,o,type,pos,after,guard⟩ a w K:=by
  rw [Zls ps a f hf] at he
  exact .of he hr hs hk
theorem ZpI {o:Op} {F:Array (Nat × Value)->Sem Value} {ps:Array (Nat × Operand)} {f:Nat × Operand->Nat × Value} {v:EV}
    (he:execOp a.eval ⟨dst,o,type,pos,after,guard⟩=(do pure (.value (<- F (ps.map f))))) (hf:∀ x,f x=(x.1,a.eval x.2))
    (hr:∀ w:World,True->(F (ps.toList.map fun x=>(x.1,a.eval x.2)).toArray).run c.P w = .ok v.v w) (hk:K v h):Zd1 c ⟨dst,o,type,pos,after,guard⟩ a h K:=by
  rw [Zls ps a f hf] at he
  exact .of he hr hk
theorem ZkV (hag:Agr c.n e a) {t:TypeId} {ps:Array (Nat × Operand)} (hk:opP c (.build t ps) e h K):Zd1 c ⟨dst,.build t ps,type,pos,after,guard⟩ a h K:=by
  simp only [opP] at hk
  split at hk
  ·rename_i fs zs hu hz
   split at hk
   ·rename_i l hl
    obtain ⟨hall,hk⟩:=ZeB hk
    obtain ⟨hone,hk⟩:=Zm4 hk
    refine ZpI (F:=Instr.build t) rfl (fun _=>rfl) (fun w hw=>?_) hk
    exact Zkr c.P w t hu hz hall (Zkc c.P fs.toList hag zs.length hl hone)
   ·exact hk.elim
  ·rename_i n el zs hu hz
   split at hk
   ·rename_i l hl
    obtain ⟨hsome,hk⟩:=ZeB hk
    obtain ⟨j,hj⟩:=Axd.1 hsome
    refine ZpI (F:=Instr.build t) rfl (fun _=>rfl) (fun w hw=>?_) hk
    exact Zlc c.P w t hu hz hj (Zhz (c.P.cellsOf el) hag zs.length hl)
   ·exact hk.elim
  ·exact hk.elim
theorem Zl8 (hag:Agr c.n e a) {t:TypeId} {n:Nat} {ps:Array (Nat × Operand)} (hk:opP c (.buildSlice t n ps) e w.heap K):Val c ⟨dst,.buildSlice t n ps,type,pos,after,guard⟩ a w K:=by
  simp only [opP] at hk
  split at hk
  ·rename_i el hu
   split at hk
   ·rename_i zs l hz hl
    obtain ⟨h1,hk⟩:=ZeB hk
    obtain ⟨h2,hk⟩:=ZeB hk
    have hr:=Zmg c.P w t hu hz (Awg h2) (Awt h1) (Zhz (c.P.cellsOf el) hag _ hl)
    exact Zzy (F:=Instr.buildSlice t n) (v:= .val (.slice (some ⟨w.heap.size,0,none⟩) n n)) rfl (fun _=>rfl) hr ⟨rfl,rfl,rfl⟩ hk
   ·exact hk.elim
  ·exact hk.elim
theorem ZnN (hag:Agr c.n e a) {t:TypeId} {x:Operand} (hk:opP c (.load t x) e h K):ZrP c ⟨dst,.load t x,type,pos,after,guard⟩ a h K:=by
  simp only [opP] at hk
  split at hk
  ·rename_i v hv
   obtain ⟨b,o,hp,hk⟩:=Zh8 hk
   obtain ⟨u,hr,hk⟩:=ZsD hk
   refine ZrP.of (s:=Instr.loadAt t (a.eval x)) rfl (fun w hw=>?_) hk
   rw [hag.ev hv,hp]
   exact ZmP (hr w hw)
  ·exact hk.elim
theorem Zho (hag:Agr c.n e a) {x:Operand} (hk:opP c (.nilCheck x) e h K):Zd1 c ⟨dst,.nilCheck x,type,pos,after,guard⟩ a h K:=by
  simp only [opP] at hk
  split at hk
  ·rename_i v hv
   obtain ⟨b,o,hp,hk⟩:=Zh8 hk
   refine ⟨.adr b o,fun w hw=>?_,hk⟩
   simp only [execOp,hag.ev hv,hp]
   rfl
  ·exact hk.elim
theorem Zg0 {op:BinOp} {t:TypeId} {x y:Operand} {u v:Value} (h:(∀ cs,u≠ .agg cs)/\u≠ .nilIface):(eqGuard op t x y u v).run c.P w = .ok () w:=by
  unfold eqGuard
  cases op<;>first
    | rfl
    | (cases u<;>first | rfl | exact absurd rfl (h.1 _) | exact absurd rfl h.2)
theorem Zye {op:BinOp} {x y:EV} {K:EV->Prop} (h:ZAT op x y K):(∀ cs,x.v≠ .agg cs)/\x.v≠ .nilIface:=by
  unfold ZAT at h
  split at h
  ·exact ⟨fun _ h=>(by cases h),fun h=>(by cases h)⟩
  ·exact ⟨fun _ h=>(by cases h),fun h=>(by cases h)⟩
  ·exact h.elim
theorem Zz1 {d:Option TypeDesc} {neg:Bool} {x y:EV} {K:EV->Prop} (h:eqP d neg x y K):(∀ cs,x.v≠ .agg cs)/\x.v≠ .nilIface:=by
  unfold eqP at h
  split at h
  ·exact ⟨fun _ h=>(by cases h),fun h=>(by cases h)⟩
  ·exact ⟨fun _ h=>(by cases h),fun h=>(by cases h)⟩
  ·exact ⟨fun _ h=>(by cases h),fun h=>(by cases h)⟩
  ·exact ⟨fun _ h=>(by cases h),fun h=>(by cases h)⟩
  ·split at h
   ·rename_i hx _
    rw [hx]
    exact ⟨fun _ h=>(by cases h),fun h=>(by cases h)⟩
   ·exact h.elim
  ·exact h.elim
theorem ZgY {P:Program} {t:TypeId} {x y:Value} {b:Bool} {d:Nat} {w:World} (h:ZgZ (P.underlying t) x y=some b):ZbV (P.underlying t)=false/\(P.underlying t).isSome=true/\(Op.equalIn (d+1) t x y).run P w = .ok b w:=by
  unfold ZgZ at h
  split at h
  ·rename_i k' k a k'' b' hu
   split at h
   ·rename_i hk
    subst hk
    simp only [Awh] at h
    subst h
    rw [hu]
    exact ⟨rfl,rfl,run_equalIn_int w d t _ _ _ _ hu⟩
   ·cases h
  ·rename_i a b' hu
   simp only [Awh] at h
   subst h
   rw [hu]
   exact ⟨rfl,rfl,run_equalIn_string w d t _ _ hu⟩
  ·rename_i a b' hu
   simp only [Awh] at h
   subst h
   rw [hu]
   exact ⟨rfl,rfl,run_equalIn_bool' w d t _ _ hu⟩
  ·cases h
theorem ZcE {P:Program} {w:World} {t:TypeId} {xs:Array Value} {off:Nat} {x:Value} (h1:ZbV (P.underlying t)=false) (h2:(P.underlying t).isSome=true) (hx:xs[off]?=some x):(part t xs off).run P w = .ok x w:=by
  obtain ⟨d,hu⟩:=Axd.1 h2
  rw [hu] at h1
  unfold part
  simp only [Awk,Zep P w t hu,h1,Awl,Aqc,if_false,hx]
  rfl
theorem Zg1 {P:Program} {xs ys:Array Value} {d:Nat} {w:World}:∀ {fs:List Field} {b:Bool},ZfA P fs xs.toList ys.toList=some b->(Op.eqFields (d+1) xs ys fs).run P w = .ok b w
  | [],b,h=>by
    simp only [ZfA,Awh] at h
    subst h
    rfl
  | f::fs,b,h=>by
    simp only [ZfA] at h
    cases hn:f.name == "_" with
    | true=>rw [hn] at h;cases h
    | false =>
      rw [hn] at h
      simp only [cond_false] at h
      split at h
      ·rename_i x y hx hy
       split at h
       ·rename_i a r ha hr
        simp only [Awh] at h
        subst h
        have hne:f.name≠ "_" :=by
          intro he
          rw [he] at hn
          simp at hn
        have hx':xs[f.offset]?=some x:=by simpa using hx
        have hy':ys[f.offset]?=some y:=by simpa using hy
        obtain ⟨h1,h2,h3⟩:=ZgY (d:=d) (w:=w) ha
        simp only [Op.eqFields,hne,ne_eq,not_false_eq_true,if_true,Awk,ZcE h1 h2 hx',ZcE h1 h2 hy',h3,Awl]
        cases a with
        | true=>simpa using Zg1 hr
        | false=>simp
       ·cases h
      ·cases h
theorem Zhv {P:Program} {w:World} {t:TypeId} {gs:Array Field} {xs:Array Value} {off:Nat} (hu:P.underlying t=some (.struct gs)) (hn:off+P.cellsOf t<=xs.size) :
    (part t xs off).run P w = .ok (.agg ⟨(xs.toList.drop off).take (P.cellsOf t)⟩) w:=by
  obtain ⟨i,hi⟩:=ZaZ P hu
  unfold part
  simp only [Awk,Zep P w t hu,Awl,ZbV,if_true,XM P w t hi,Awp]
  rw [ZbW P hi]
  congr 2
  apply Axe
  simp [List.take_drop,Nat.add_comm]
theorem Zla {P:Program} {w:World} {t el:TypeId} {n:Nat} {gs:Array Field} {cs:Array Value} {k:IntKind} {i:Int} (hu:P.underlying t=some (.array n el)) (he:P.underlying el=some (.struct gs)) (h0:0<=i) (h1:i<n) (hl:cs.toList.length=n*P.cellsOf el) :
    (Instr.index t (.agg cs) (.int k i)).run P w = .ok (.agg ⟨(cs.toList.drop (i.toNat*P.cellsOf el)).take (P.cellsOf el)⟩) w:=by
  obtain ⟨inf,hi⟩:=ZaZ P he
  have hs:P.cellsOf el=inf.size:=by unfold Program.cellsOf;rw [hi];rfl
  have hb:i.toNat*P.cellsOf el+P.cellsOf el<=cs.size:=by
    have h2:i.toNat+1<=n:=by omega
    have:=Aqz (P.cellsOf el) h2
    rw [Aqy,Nat.one_mul,<- hl] at this
    simpa using this
  have:=Zhv (w:=w) (xs:=cs) he hb
  unfold Instr.index asIntOf
  simp only [Awk,Awp,Awl,Zg P w t hu,if_pos (And.intro h0 h1),XM P w el hi,<- hs]
  exact this
theorem Zgc {P:Program} {xs ys:Array Value} {d:Nat} {w:World}:∀ {fs:List Field} {b:Bool},Ze8 P fs xs.toList ys.toList=some b->(Op.eqFields (d+1+1) xs ys fs).run P w = .ok b w
  | [],b,h=>by
    simp only [Ze8,Awh] at h
    subst h
    rfl
  | f::fs,b,h=>by
    simp only [Ze8] at h
    cases hn:f.name == "_" with
    | true=>rw [hn] at h;cases h
    | false =>
      rw [hn] at h
      simp only [cond_false] at h
      have hne:f.name≠ "_" :=by
        intro he
        rw [he] at hn
        simp at hn
      split at h
      ·rename_i gs hu
       cases hst:P.stoodInHeld f.type with
       | true=>rw [hst] at h;cases h
       | false =>
         rw [hst] at h
         simp only [cond_false] at h
         cases hle:(Nat.ble (f.offset+P.cellsOf f.type) xs.toList.length&&Nat.ble (f.offset+P.cellsOf f.type) ys.toList.length) with
         | false=>rw [hle] at h;cases h
         | true =>
           rw [hle] at h
           simp only [cond_true] at h
           simp only [Awn,Nat.ble_eq,Awa] at hle
           split at h
           ·rename_i a r ha hr
            simp only [Awh] at h
            subst h
            have hf:P.fieldsOf f.type=gs:=by unfold Program.fieldsOf;rw [hu]
            have h3:(Op.equalIn (d+1+1) f.type (.agg ⟨(xs.toList.drop f.offset).take (P.cellsOf f.type)⟩) (.agg ⟨(ys.toList.drop f.offset).take (P.cellsOf f.type)⟩)).run P w = .ok a w:=by
              rw [run_equalIn_agg w _ f.type _ _ (by rw [hf];exact hu) hst,hf]
              exact Zg1 ha
            simp only [Op.eqFields,hne,ne_eq,not_false_eq_true,if_true,Awk,Zhv hu hle.1,Zhv hu hle.2,h3,Awl]
            cases a with
            | true=>simpa using Zgc hr
            | false=>simp
           ·cases h
      ·rename_i u hns
       split at h
       ·rename_i x y hx hy
        split at h
        ·rename_i a r ha hr
         simp only [Awh] at h
         subst h
         have hx':xs[f.offset]?=some x:=by simpa using hx
         have hy':ys[f.offset]?=some y:=by simpa using hy
         obtain ⟨h1,h2,h3⟩:=ZgY (d:=d+1) (w:=w) ha
         simp only [Op.eqFields,hne,ne_eq,not_false_eq_true,if_true,Awk,ZcE h1 h2 hx',ZcE h1 h2 hy',h3,Awl]
         cases a with
         | true=>simpa using Zgc hr
         | false=>simp
        ·cases h
       ·cases h
theorem ZxV {P:Program} {t:TypeId} {fs:Array Field} {x y:EV} {K:Bool->Prop} (hu:P.underlying t=some (.struct fs)) (hk:eqS P t fs x y K) :
    ∃ (xs ys:Array Value) (b:Bool),x.v = .agg xs/\y.v = .agg ys/\P.eqGuardType P.depth t=false/\(∀ w,(Op.equalIn 10000 t (.agg xs) (.agg ys)).run P w = .ok b w)/\K b:=by
  unfold eqS at hk
  split at hk
  ·rename_i xs ys
   cases hc:(P.stoodInHeld t||P.eqGuardType P.depth t) with
   | true=>rw [hc] at hk;exact hk.elim
   | false =>
     rw [hc] at hk
     simp only [cond_false] at hk
     rw [Bool.or_eq_false_iff] at hc
     split at hk
     ·rename_i b hb
      have hf:P.fieldsOf t=fs:=by unfold Program.fieldsOf;rw [hu]
      refine ⟨xs,ys,b,rfl,rfl,hc.2,fun w=>?_,hk⟩
      rw [show (10000:Nat)=9997+1+1+1 from rfl,run_equalIn_agg w _ t xs ys (by rw [hf];exact hu) hc.1,hf]
      exact Zgc hb
     ·exact hk.elim
  ·exact hk.elim
theorem ZlP {op:BinOp} {t:TypeId} {x:Operand} {u:Value} {w:World} (h:∀ cs,u≠ .agg cs):(eqGuard op t x (.const .nilIface) u .nilIface).run c.P w = .ok () w:=by
  unfold eqGuard
  cases op<;>first
    | rfl
    | (cases u<;>first | rfl | exact absurd rfl (h _) | (simp [Awp]))
theorem ZkW (hag:Agr c.n e a) {op:BinOp} {t t':TypeId} {x y:Operand} (hk:opP c (.binOp op t x y t') e h K):Zd1 c ⟨dst,.binOp op t x y t',type,pos,after,guard⟩ a h K:=by
  have bin:∀ {u v:EV},e.ev x=some u->e.ev y=some v->ZAT op u v (fun v=>K v h)->Zd1 c ⟨dst,.binOp op t x y t',type,pos,after,guard⟩ a h K:=by
    intro u v hu hv hb
    obtain ⟨r,hr,hk⟩:=ZAb (P:=c.P) (t:=t) hb
    refine Zd1.of (s:=do eqGuard op t x y (a.eval x) (a.eval y);binOp op t (a.eval x) (a.eval y)) rfl (fun w hw=>?_) hk
    rw [hag.ev hu,hag.ev hv]
    simp only [Awk,Zg0 (Zye hb),Awl,hr w]
  have eqq:∀ {u v:EV} {neg:Bool},op=(bif neg then .neq else .eql)->e.ev x=some u->e.ev y=some v->eqP (c.P.underlying t) neg u v (fun v=>K v h)->Zd1 c ⟨dst,.binOp op t x y t',type,pos,after,guard⟩ a h K:=by
    rintro u v neg rfl hu hv hb
    obtain ⟨r,hr,hk⟩:=ZDz (P:=c.P) hb
    refine Zd1.of (s:=do eqGuard (bif neg then .neq else .eql) t x y (a.eval x) (a.eval y);binOp (bif neg then .neq else .eql) t (a.eval x) (a.eval y)) rfl (fun w hw=>?_) hk
    rw [hag.ev hu,hag.ev hv]
    simp only [Awk,Zg0 (Zz1 hb),Awl,hr w]
  have eqnil:∀ {u:EV} {neg:Bool} {ms:Array (String × TypeId)} {t'':TypeId},op=(bif neg then .neq else .eql)->c.P.underlying t=some (.interface ms)->e.ev x=some u->Znb u.v (fun b=>K (.val (.bool (bif neg then !b else b))) h)->Zd1 c ⟨dst,.binOp op t x (.const .nilIface) t'',type,pos,after,guard⟩ a h K:=by
    rintro u neg ms t'' rfl hud hu hb
    rcases hb with ⟨hv,hb⟩ | ⟨t2,u2,hv,hb⟩
    ·refine Zd1.of (s:=do eqGuard (bif neg then .neq else .eql) t x (.const .nilIface) (a.eval x) .nilIface;binOp (bif neg then .neq else .eql) t (a.eval x) .nilIface) rfl (fun w hw=>?_) hb
     rw [hag.ev hu,hv]
     have:=ZoE w hud
     cases neg<;>simp only [cond_true,cond_false,EV.v,binOp,Awk,ZlP (u:=Value.nilIface) (fun _ h=>(by cases h)),this,Awl]<;>rfl
    ·refine Zd1.of (s:=do eqGuard (bif neg then .neq else .eql) t x (.const .nilIface) (a.eval x) .nilIface;binOp (bif neg then .neq else .eql) t (a.eval x) .nilIface) rfl (fun w hw=>?_) hb
     rw [hag.ev hu,hv]
     have:=ZlO w hud t2 u2
     cases neg<;>simp only [cond_true,cond_false,EV.v,binOp,Awk,ZlP (u:=Value.iface t2 u2) (fun _ h=>(by cases h)),this,Awl]<;>rfl
  have eqnilF:∀ {u:EV} {neg:Bool} {ps rs:Array TypeId} {vr:Bool} {t'':TypeId},op=(bif neg then .neq else .eql)->c.P.underlying t=some (.func ps rs vr)->e.ev x=some u->ZsE u.v (fun b=>K (.val (.bool (bif neg then !b else b))) h)->Zd1 c ⟨dst,.binOp op t x (.const .nilFunc) t'',type,pos,after,guard⟩ a h K:=by
    rintro u neg ps rs vr t'' rfl hud hu hb
    rcases hb with ⟨hv,hb⟩ | ⟨f2,a2,b2,hv,hb⟩
    ·refine Zd1.of (s:=do eqGuard (bif neg then .neq else .eql) t x (.const .nilFunc) (a.eval x) .nilFunc;binOp (bif neg then .neq else .eql) t (a.eval x) .nilFunc) rfl (fun w hw=>?_) hb
     rw [hag.ev hu,hv]
     have:=Zmr w hud
     cases neg<;>simp only [cond_true,cond_false,EV.v,binOp,Awk,Zg0 (u:=Value.nilFunc) ⟨fun _ h=>(by cases h),fun h=>(by cases h)⟩,this,Awl]<;>rfl
    ·refine Zd1.of (s:=do eqGuard (bif neg then .neq else .eql) t x (.const .nilFunc) (a.eval x) .nilFunc;binOp (bif neg then .neq else .eql) t (a.eval x) .nilFunc) rfl (fun w hw=>?_) hb
     rw [hag.ev hu,hv]
     have:=Zms w hud f2 a2 b2
     cases neg<;>simp only [cond_true,cond_false,EV.v,binOp,Awk,Zg0 (u:=Value.func f2 a2 b2) ⟨fun _ h=>(by cases h),fun h=>(by cases h)⟩,this,Awl]<;>rfl
  simp only [opP] at hk
  split at hk
  ·rename_i u v hu hv
   split at hk
   ·exact bin hu hv hk
   ·exact bin hu hv hk
   ·exact bin hu hv hk
   ·exact bin hu hv hk
   ·rename_i fs hud
    obtain ⟨xs,ys,b,hx,hy,hg,hr,hk⟩:=ZxV hud hk
    refine Zd1.of (v:= .val (.bool b)) (s:=do eqGuard .eql t x y (a.eval x) (a.eval y);binOp .eql t (a.eval x) (a.eval y)) rfl (fun w hw=>?_) hk
    rw [hag.ev hu,hag.ev hv,hx,hy]
    simp only [Awk,run_eqGuard_agg w .eql t x y xs ys hg,Awl,run_eql_struct,hr w]
    rfl
   ·rename_i fs hud
    obtain ⟨xs,ys,b,hx,hy,hg,hr,hk⟩:=ZxV hud hk
    refine Zd1.of (v:= .val (.bool (!b))) (s:=do eqGuard .neq t x y (a.eval x) (a.eval y);binOp .neq t (a.eval x) (a.eval y)) rfl (fun w hw=>?_) hk
    rw [hag.ev hu,hag.ev hv,hx,hy]
    simp only [Awk,run_eqGuard_agg w .neq t x y xs ys hg,Awl,run_neq_struct,hr w]
    rfl
   ·rename_i ms hud
    split at hk
    ·exact eqnil (neg:=false) rfl hud hu hk
    ·exact hk.elim
   ·rename_i ms hud
    split at hk
    ·exact eqnil (neg:=true) rfl hud hu hk
    ·exact hk.elim
   ·rename_i ps rs vr hud
    split at hk
    ·exact eqnilF (neg:=false) rfl hud hu hk
    ·exact hk.elim
   ·rename_i ps rs vr hud
    split at hk
    ·exact eqnilF (neg:=true) rfl hud hu hk
    ·exact hk.elim
   ·exact eqq (neg:=false) rfl hu hv hk
   ·exact eqq (neg:=true) rfl hu hv hk
   ·exact bin hu hv hk
  ·exact hk.elim
theorem ZnJ (hag:Agr c.n e a) {op:UnOp} {t:TypeId} {x:Operand} (hk:opP c (.unOp op t x) e h K):Zd1 c ⟨dst,.unOp op t x,type,pos,after,guard⟩ a h K:=by
  simp only [opP] at hk
  split at hk
  ·rename_i b hv
   refine ⟨_,fun w hw=>?_,hk⟩
   simp only [execOp,hag.ev hv,EV.v]
   rfl
  ·rename_i b hv
   refine ⟨_,fun w hw=>?_,hk⟩
   simp only [execOp,hag.ev hv,EV.v]
   rfl
  ·rename_i k n hv
   refine ⟨_,fun w hw=>?_,hk⟩
   simp only [execOp,hag.ev hv,EV.v]
   rfl
  ·exact hk.elim
theorem Zhq (hag:Agr c.n e a) {s d:TypeId} {x:Operand} {j k:IntKind} (hs:c.P.underlying s=some (.int j)) (hd:c.P.underlying d=some (.int k)) (hk:opP c (.convert s d x) e h K) :
    Zd1 c ⟨dst,.convert s d x,type,pos,after,guard⟩ a h K:=by
  simp only [opP,hs,hd] at hk
  split at hk
  ·rename_i k2 k' n h1 h2 hv
   cases h2
   refine Zd1.of (s:=convert s d (a.eval x)) rfl (fun w hw=>?_) hk
   rw [hag.ev hv]
   exact Zhx hs hd
  all_goals first
    | exact hk.elim
    | (rename_i h1 _ _;cases h1)
    | (rename_i h1 _;cases h1)
    | (rename_i h1;cases h1)
theorem ZqN (hag:Agr c.n e a) {s d:TypeId} {x:Operand} (hk:opP c (.convert s d x) e w.heap K):Val c ⟨dst,.convert s d x,type,pos,after,guard⟩ a w K:=by
  simp only [opP] at hk
  split at hk
  ·rename_i j k k' n hs hd hv
   refine .of (s:=convert s d (a.eval x)) rfl ?_ (Same.refl w) hk
   rw [hag.ev hv]
   exact Zhx hs hd
  ·rename_i y hs hd hv
   refine .of (s:=convert s d (a.eval x)) rfl ?_ (Same.refl w) hk
   rw [hag.ev hv]
   exact Zi6 hs hd
  ·rename_i el y hs hd hv
   split at hk
   ·rename_i he
    obtain ⟨r,w',hr,hs',hk⟩:=ZCN (P:=c.P) hk
    refine .of (v:= .val (.slice r.ptr r.len r.cap)) (s:=convert s d (a.eval x)) rfl ?_ hs' hk
    rw [hag.ev hv]
    exact (Zlb hs hd he).trans hr
   ·exact hk.elim
  ·rename_i el p l m hs hd hv
   split at hk
   ·rename_i he
    obtain ⟨r,hr,hk⟩:=Zq0 (P:=c.P) hk
    refine .of (v:= .val (.string r)) (s:=convert s d (a.eval x)) rfl ?_ (Same.refl w) hk
    rw [hag.ev hv]
    exact (Zhy hs hd he).trans hr
   ·exact hk.elim
  ·rename_i e' el p l m hs hd hv
   split at hk
   ·rename_i he
    obtain ⟨hsd,hk1⟩:=ZeB hk
    clear hk
    have hsd':=Awg hsd
    subst hsd'
    obtain ⟨b,o,c',t,rfl,hb,hk⟩:=hk1
    refine .of (v:= .val (.slice (some ⟨b,o,none⟩) l m)) (w':={ w with heap:=Zc.frz w.heap b }) (s:=convert s s (a.eval x)) rfl ?_ ⟨rfl,rfl,rfl⟩ hk
    rw [hag.ev hv]
    exact Zkq hs hd he hb
   ·exact hk.elim
  ·exact hk.elim
theorem ZnM (hag:Agr c.n e a) {t:TypeId} {x y:Operand} (hk:opP c (.makeSlice t x y) e w.heap K):Val c ⟨dst,.makeSlice t x y,type,pos,after,guard⟩ a w K:=by
  simp only [opP] at hk
  split at hk
  ·rename_i el k l k' m hu hx hy
   split at hk
   ·rename_i size bytes zs hs hz
    obtain ⟨hlen,hk1⟩:=ZeB hk
    clear hk
    obtain ⟨h0,h1,h2,h3,hk2⟩:=hk1
    obtain ⟨i,z,hi,hiz,rfl⟩:=Zdo hz
    obtain ⟨i',hi',rfl,rfl⟩:=Ze6 hs
    rw [hi] at hi'
    cases hi'
    refine .of (v:= .val (.slice (some ⟨w.heap.size,0,none⟩) l.toNat m.toNat)) (w':={ w with heap:=w.heap.push (.cells (Zbt z.cells.toList m.toNat).toArray el)}) (s:=Instr.makeSlice t (a.eval x) (a.eval y)) rfl ?_ ⟨rfl,rfl,rfl⟩ hk2
    rw [hag.ev hx,hag.ev hy]
    exact Zn5 hu hi hiz (by have:=Awg hlen;simpa using this) h0 h1 h2 h3
   ·exact hk.elim
  ·exact hk.elim
end
end Go.Fw
