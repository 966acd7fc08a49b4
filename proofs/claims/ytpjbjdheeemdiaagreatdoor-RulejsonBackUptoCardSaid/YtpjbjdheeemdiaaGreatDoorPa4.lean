/- Why a reading is right: each operation, whole. -/
import Derived.Laws.StructEq
import Derived.Test.YtpjbjdheeemdiaaGreatDoorPa3
set_option linter.unusedVariables false
set_option linter.unusedSimpArgs false
namespace Go.Fw
open Go
theorem ZdV (P:Program) (w:World) (t:TypeId) (cs:Array Value):(newRow t cs).run P w = .ok ⟨w.heap.size,0,none⟩ { w with heap:=w.heap.push (.cells cs t)}:=by
  unfold newRow
  simp
theorem Zx7 (P:Program) (w:World) (t:TypeId) (v:Value) {i:TypeInfo} (a:P.info? t=some i) (b:i.zero=some v) :
    (Instr.alloc t true (.tuple #[])).run P w = .ok (.pointer (some ⟨w.heap.size,0,none⟩)) { w with heap:=w.heap.push (.cells v.cells t)}:=by
  unfold Instr.alloc newVar
  simp [ZaC P w t a b,ZdV]
theorem ZEw (P:Program) (w:World) (t:TypeId) (v:Value) :
    (Instr.box t v).run P w = .ok (.pointer (some ⟨w.heap.size,0,none⟩)) { w with heap:=w.heap.push (.cells v.cells t)}:=by
  unfold Instr.box newVar
  simp [ZdV]
theorem ZmV (P:Program) (w:World):∀ (l:List Field),(∀ f∈l,∃ i,P.info? f.type=some i) ->
    (l.mapM fun f=>(do pure (f.offset,<- sizeOf f.type):Sem (Nat × Nat))).run P w = .ok (l.map fun f=>(f.offset,P.cellsOf f.type)) w
  | [],_=>by simp
  | f::l,h=>by
    obtain ⟨i,a⟩:=h f (by simp)
    have b:=ZmV P w l (fun g c=>h g (by simp [c]))
    rw [Axa]
    simp only [Awk,XV P w f.type a,Awl,Awp,b,Awo,Zcb P a]
theorem ZlC (P:Program) (w:World) (t:TypeId) {fs:Array Field} {zs:List Value} {b:List (Nat × Value)} {l:List (Nat × List Value)}
    (hu:P.underlying t=some (.struct fs)) (d:Zlz P t=some zs) (a:(fs.toList.all fun f=>(P.info? f.type).isSome)=true)
    (c:ZFx (fun i=>(fs.toList[i]?).map fun f=>(f.offset,P.cellsOf f.type)) zs.length b l) :
    (Instr.build t b.toArray).run P w = .ok (.agg (Zf1 zs l).toArray) w:=by
  obtain ⟨i,v,g,h,rfl⟩:=ZdU d
  unfold Instr.build
  simp only [Awk,ZaC P w t g h,Awl,Zg P w t hu]
  rw [Axb]
  simp only [Sem.run_map,ZmV P w fs.toList (fun f c=>by
    have:=Axc.1 a f c
    exact Axd.1 this),Awl]
  have:=ZgI (fun (x:Nat)=>((fs.toList.map fun (f:Field)=>(f.offset,P.cellsOf f.type)).toArray)[x]?) v.cells.toList.length b l v.cells (by simp) (by
    have e:(fun (x:Nat)=>((fs.toList.map fun (f:Field)=>(f.offset,P.cellsOf f.type)).toArray)[x]?)=(fun (i:Nat)=>(fs.toList[i]?).map fun (f:Field)=>(f.offset,P.cellsOf f.type)):=by
      funext x
      simp
    rw [e];exact c)
  simp only [this]
  rfl
theorem Zmy (P:Program) (w:World) (t:TypeId) {n:Nat} {el:TypeId} {zs:List Value} {a:List (Nat × Value)} {l:List (Nat × List Value)} {j:TypeInfo}
    (hu:P.underlying t=some (.array n el)) (d:Zlz P t=some zs) (b:P.info? el=some j)
    (c:ZFx (fun i=>some (i*P.cellsOf el,P.cellsOf el)) zs.length a l) :
    (Instr.build t a.toArray).run P w = .ok (.agg (Zf1 zs l).toArray) w:=by
  obtain ⟨i,v,e,f,rfl⟩:=ZdU d
  unfold Instr.build
  simp only [Awk,ZaC P w t e f,Awl,Zg P w t hu,XV P w el b]
  have:=ZgI (fun i=>some (i*j.size,j.size)) v.cells.toList.length a l v.cells (by simp) (by rw [Zcb P b] at c;exact c)
  simp only [this]
  rfl
theorem ZnW (P:Program) (w:World) (t:TypeId) {n:Nat} {el:TypeId} {zs:List Value} {a:List (Nat × Value)} {l:List (Nat × List Value)}
    (hu:P.underlying t=some (.slice el)) (m:Zlz P el=some zs) (g:zs.length=P.cellsOf el) (hle:n*P.cellsOf el<=ZkC)
    (k:ZFx (fun i=>some (i*P.cellsOf el,P.cellsOf el)) (n*P.cellsOf el) a l) :
    (Instr.buildSlice t n a.toArray).run P w = .ok (.slice (some ⟨w.heap.size,0,none⟩) n n) { w with heap:=w.heap.push (.cells (Zf1 (Zbl zs n) l).toArray el)}:=by
  obtain ⟨i,v,b,o,rfl⟩:=ZdU m
  have c:=Zcb P b
  unfold Instr.buildSlice
  simp only [Awk,Zg P w t hu,Awl,XV P w el b]
  rw [c] at g hle k
  have d:¬ (n*i.size>2 ^ 24):=by
    have:(2:Nat) ^ 24=ZkC:=by unfold ZkC;decide
    omega
  have hlen:v.cells.size=i.size:=by simpa using g
  have fin:∀ z:Array Value,((Array.range (n*i.size)).map (fun x=>z[x % z.size]!)).toList=Zbl v.cells.toList n ->
      Instr.fill (fun j=>some (j*i.size,i.size)) ((Array.range (n*i.size)).map (fun x=>z[x % z.size]!)) a=some (Zf1 (Zbl v.cells.toList n) l).toArray:=by
    intro z e
    have:=ZgI (fun j=>some (j*i.size,i.size)) (n*i.size) a l ((Array.range (n*i.size)).map (fun x=>z[x % z.size]!)) (by simp) k
    rw [e] at this
    exact this
  simp only [if_neg d]
  by_cases h:n*i.size=0
  ·rw [if_pos h]
   have f:Zbl v.cells.toList n=[]:=Aqr (by rw [Zhw];simpa [hlen] using h)
   simp only [Awk,Awp,Awl]
   rw [fin #[] (by rw [f];simp [h])]
   simp only [Awk,ZdV,Awl,Awp]
  ·rw [if_neg h]
   simp only [Awk,ZaC P w el b o,Awp,Awl]
   rw [fin v.cells (Zjs v.cells n _ (by rw [hlen]))]
   simp only [Awk,ZdV,Awl,Awp]
theorem ZoD {P:Program} {w:World} {t:TypeId} {b o:Nat} {v:Value} (h:(loadVar t ⟨b,o,none⟩).run P w = .ok v w) :
    (Instr.loadAt t (.pointer (some ⟨b,o,none⟩))).run P w = .ok v w:=by
  unfold Instr.loadAt Instr.sureAddr
  simp [h]
theorem Zs1 {P:Program} {w w':World} {t:TypeId} {b o:Nat} {v:Value} (h:(storeVar t ⟨b,o,none⟩ v).run P w = .ok () w') :
    (Instr.storeAt t (.pointer (some ⟨b,o,none⟩)) v).run P w = .ok () w':=by
  unfold Instr.storeAt Instr.sureAddr
  simp [h]
theorem Zs3 {P:Program} {w:World} {s:TypeId} {b o f:Nat} {fs:Array Field} {fd:Field} (hu:P.underlying s=some (.struct fs)) (e:fs.toList[f]?=some fd)
    (a:P.cellsOf fd.type≠0):(Instr.fieldAt s (.pointer (some ⟨b,o,none⟩)) f).run P w = .ok (.pointer (some ⟨b,o+fd.offset,none⟩)) w:=by
  unfold Instr.fieldAt Instr.sureAddr fieldPlace
  cases c:P.info? fd.type with
  | none=>unfold Program.cellsOf at a;simp [c] at a
  | some i =>
    have d:fs[f]?=some fd:=by simpa using e
    have g:i.size≠0:=by rw [<- Zcb P c];exact a
    simp only [Awk,Zg P w s hu,Awl,d,Awp,XV P w _ c,if_neg g,Zly]
theorem ZkW {P:Program} {w:World} {t el:TypeId} {b o l m size:Nat} {k:IntKind} {i:Int} {inf:TypeInfo} (hu:P.underlying t=some (.slice el)) (a:P.info? el=some inf) (c:inf.size=size)
    (d:0<=i) (e:i<l):(Instr.indexAt t (.slice (some ⟨b,o,none⟩) l m) (.int k i)).run P w = .ok (.pointer (some ⟨b,o+i.toNat*size,none⟩)) w:=by
  unfold Instr.indexAt asIntOf
  simp only [Awk,Awp,Awl,Zg P w t hu]
  simp [d,e,XV P w el a,c,Zly]
theorem ZkX {P:Program} {w:World} {t el:TypeId} {b o n size:Nat} {k:IntKind} {i:Int} {inf:TypeInfo} (hu:P.underlying t=some (.array n el)) (a:P.info? el=some inf) (c:inf.size=size)
    (d:0<=i) (e:i<n):(Instr.indexAt t (.pointer (some ⟨b,o,none⟩)) (.int k i)).run P w = .ok (.pointer (some ⟨b,o+i.toNat*size,none⟩)) w:=by
  unfold Instr.indexAt asIntOf Instr.sureAddr
  simp only [Awk,Awp,Awl,Zg P w t hu]
  simp [d,e,XV P w el a,c,Zly]
theorem ZlA {P:Program} {w:World} {t:TypeId} {s:ByteArray} {k:IntKind} {i:Int} {x:UInt8} (hu:P.underlying t=some .string) (a:0<=i) (b:s[i.toNat]?=some x) :
    (Instr.index t (.string s) (.int k i)).run P w = .ok (.int .u8 x.toNat) w:=by
  unfold Instr.index asIntOf
  simp only [Awk,Awp,Awl,Zg P w t hu,if_pos a,b]
theorem Zp5 {P:Program} {w:World} {s:TypeId} {cs:Array Value} {f:Nat} {fs:Array Field} {fd:Field} {v:Value} {d:TypeDesc} (hu:P.underlying s=some (.struct fs)) (c:fs.toList[f]?=some fd)
    (hd:P.underlying fd.type=some d) (e:Zca (some d)=false) (g:cs.toList[fd.offset]?=some v):(Instr.field s (.agg cs) f).run P w = .ok v w:=by
  unfold Instr.field part asAgg
  have a:fs[f]?=some fd:=by simpa using c
  have b:cs[fd.offset]?=some v:=by simpa using g
  simp [Zg P w s hu,a,Ze2 P w _ hd,e,b]
theorem Zp6 {P:Program} {w:World} {s:TypeId} {cs:Array Value} {f:Nat} {fs:Array Field} {fd:Field} {d:TypeDesc} {inf:TypeInfo} (hu:P.underlying s=some (.struct fs)) (b:fs.toList[f]?=some fd)
    (hd:P.underlying fd.type=some d) (c:Zca (some d)=true) (e:P.info? fd.type=some inf) :
    (Instr.field s (.agg cs) f).run P w = .ok (.agg ((cs.toList.drop fd.offset).take inf.size).toArray) w:=by
  unfold Instr.field part asAgg
  have a:fs[f]?=some fd:=by simpa using b
  simp only [Awk,Zg P w s hu,Awl,a,Awp,Ze2 P w _ hd,c,if_true,XV P w _ e]
  congr 2
  apply Axe
  simp [List.extract_eq_take_drop]
theorem Zh7 {P:Program} {w:World} {k:IntKind} {i:Int} {y:Nat} {code:BoundsCode} (a:0<=i) (b:i<=y):(Instr.sliceBound (.int k i) y code).run P w = .ok i.toNat w:=by
  unfold Instr.sliceBound asIntOf
  simp [a,b]
theorem Zym {d n:Int} {x:Option (Option EV)} (h:ZCe d x=some n):(x=none/\n=d)\/∃ k,x=some (some (.val (.int k n))):=by
  unfold ZCe at h
  split at h
  ·simp only [Awh] at h;exact .inl ⟨rfl,h.symm⟩
  ·simp only [Awh] at h;subst h;exact .inr ⟨_,rfl⟩
  ·cases h
theorem Zpk {P:Program} {w:World} {isSlice:Bool} {len cap:Nat} {g c d:Option Value} {l h m:Int}
    (a:(g=none/\l=0)\/∃ k,g=some (.int k l)) (b:(c=none/\h=len)\/∃ k,c=some (.int k h)) (i:(d=none/\m=cap)\/∃ k,d=some (.int k m))
    (j:c=none->d=none) (n:0<=l) (o:l<=h) (r:h<=m) (p:m<=cap) :
    (Instr.sliceBounds isSlice len cap g c d).run P w = .ok (l.toNat,h.toNat,m.toNat) w:=by
  unfold Instr.sliceBounds
  have s:(m.toNat:Int)=m:=Axf (by omega)
  have t:(h.toNat:Int)=h:=Axf (by omega)
  rcases i with ⟨rfl,rfl⟩ | ⟨q,rfl⟩
  ·rcases b with ⟨rfl,rfl⟩ | ⟨e,rfl⟩
   ·rcases a with ⟨rfl,rfl⟩ | ⟨f,rfl⟩
    ·simp
    ·simp [Zh7 n o]
   ·rcases a with ⟨rfl,rfl⟩ | ⟨f,rfl⟩
    ·simp only [Awk,Awp,Awl,Zh7 (k:=e) (y:=cap) (by omega:0<=h) (by omega)]
     simp
    ·simp only [Awk,Awp,Awl,Zh7 (k:=e) (y:=cap) (by omega:0<=h) (by omega),Zh7 (k:=f) (y:=h.toNat) n (by omega)]
     simp
  ·rcases b with ⟨rfl,rfl⟩ | ⟨e,rfl⟩
   ·cases j rfl
   ·simp only [Awk,Zh7 (k:=q) (y:=cap) (by omega:0<=m) p,Awl,Zh7 (k:=e) (y:=m.toNat) (by omega:0<=h) (by omega)]
    rcases a with ⟨rfl,rfl⟩ | ⟨f,rfl⟩
    ·simp
    ·simp only [Awk,Zh7 (k:=f) (y:=h.toNat) n (by omega),Awl,Awp]
theorem ZkU {P:Program} {w:World} {t el:TypeId} {p:Option Addr} {len cap size:Nat} {b c d:Option Value} {l h m:Int} {inf:TypeInfo}
    (hu:P.underlying t=some (.slice el)) (a:P.info? el=some inf) (e:inf.size=size)
    (f:(Instr.sliceBounds true len cap b c d).run P w = .ok (l.toNat,h.toNat,m.toNat) w) :
    (Instr.sliceAt t (.slice p len cap) b c d).run P w = .ok (.slice (ZxZ p l.toNat m.toNat size) (h.toNat - l.toNat) (m.toNat - l.toNat)) w:=by
  unfold Instr.sliceAt Instr.slice ZxZ
  simp only [Awk,Zg P w t hu,Awl,f,XV P w el a,e,Awp]
theorem Zkj {P:Program} {w:World} {t:TypeId} {s:ByteArray} {a b:Option Value} {l h:Int} {m:Nat}
    (hu:P.underlying t=some .string) (c:(Instr.sliceBounds false s.size s.size a b none).run P w = .ok (l.toNat,h.toNat,m) w) :
    (Instr.sliceAt t (.string s) a b none).run P w = .ok (.string (s.extract l.toNat h.toNat)) w:=by
  unfold Instr.sliceAt Instr.slice
  simp only [Awk,Zg P w t hu,Awl,Awf,Aqc,if_false,c,Awp]
theorem Zxj {n:Int} (b:0<=n) (d:n<=9223372036854775807):IntKind.i64.wrap n=n:=by
  unfold IntKind.wrap
  have c:(2:Int) ^ IntKind.i64.bits=18446744073709551616:=by decide
  have a:(2:Int) ^ (IntKind.i64.bits - 1)=9223372036854775808:=by decide
  simp only [c,a]
  have:n % 18446744073709551616=n:=Int.emod_eq_of_lt b (by omega)
  rw [this]
  have:¬ (n>=9223372036854775808):=by omega
  simp [this]
theorem Zp4 {P:Program} {w:World} {t el:TypeId} {k f:IntKind} {l c:Int} {inf:TypeInfo} {z:Value}
    (hu:P.underlying t=some (.slice el)) (a:P.info? el=some inf) (g:inf.zero=some z) (hlen:z.cells.size=inf.size)
    (h:0<=l) (s:l<=c) (i:c*inf.bytes<=281474976710656) (u:c<=281474976710656) :
    (Instr.makeSlice t (.int k l) (.int f c)).run P w = .ok (.slice (some ⟨w.heap.size,0,none⟩) l.toNat c.toNat) { w with heap:=w.heap.push (.cells (Zbl z.cells.toList c.toNat).toArray el)}:=by
  unfold Instr.makeSlice asInt asIntOf
  have wl:IntKind.i64.wrap l=l:=Zxj h (by omega)
  have j:IntKind.i64.wrap c=c:=Zxj (by omega) (by omega)
  have e:(2:Int) ^ 48=281474976710656:=by decide
  simp only [Awk,Zg P w t hu,Awl,Awp,ZbD P w el a,wl,j]
  have m:¬ ((decide (c<0)||decide ((inf.bytes:Int)*c>2 ^ 48)||decide (l<0)||decide (l>c))=true):=by
    have n:¬ c<0:=by omega
    have o:(inf.bytes:Int)*c<=281474976710656:=by rw [Int.mul_comm];exact i
    have p:¬ l<0:=by omega
    have q:¬ l>c:=by omega
    simp [n,o,p,q]
  rw [if_neg m]
  simp only [Awk,run_askRoom,Awl,XV P w el a]
  by_cases b:c.toNat*inf.size=0
  ·rw [if_pos b]
   have d:Zbl z.cells.toList c.toNat=[]:=Aqr (by rw [Zhw];simpa [hlen] using b)
   simp only [Awk,Awp,Awl,ZdV]
   have r:Array.range 0 = #[]:=Array.eq_empty_of_size_eq_zero (by simp)
   rw [d]
   simp [b,r]
  ·rw [if_neg b]
   simp only [Awk,ZaC P w el a g,Awp,Awl,ZdV]
   have:=Zjs z.cells c.toNat (c.toNat*inf.size) (by rw [hlen])
   congr 3
   rw [<- this]
theorem ZoT {Y9 cap bytes:Nat} (h:cap<Y9) (e:Y9*bytes<=140737488355328):Builtin.nextslicecap Y9 cap*bytes<=281474976710656:=by
  unfold Builtin.nextslicecap
  split
  ·omega
  ·split
   ·have:2*cap*bytes<=2*(Y9*bytes):=by rw [Axg];exact Nat.mul_le_mul_left 2 (Aqz _ (by omega))
    omega
   ·have key:∀ (r c:Nat),c<=2*Y9->256<=c->Builtin.growBy Y9 r c<=2*Y9:=by
      intro r
      induction r with
      | zero=>intro c b _;unfold Builtin.growBy;omega
      | succ r d =>
        intro c b a
        unfold Builtin.growBy
        split
        ·omega
        ·exact d _ (by omega) (by omega)
    have:=key 4 cap (by omega) (by omega)
    have:Builtin.growBy Y9 4 cap*bytes<=2*(Y9*bytes):=by
      rw [<- Axg];exact Aqz _ this
    omega
theorem ZAU {P:Program} {w:World} {x:Sl} {size:Nat} {K:List Value->Prop} (h:rdS x size w.heap K) :
    ∃ l,(Builtin.firstCells size x.len (.slice x.ptr x.len x.cap)).run P w = .ok l.toArray w/\K l:=by
  rcases h with ⟨hp,a⟩ | ⟨b,o,l,hp,c,d,a⟩
  ·refine ⟨[],?_,a⟩
   rw [hp]
   cases x.ptr<;>simp [Builtin.firstCells,loadCells,loadCellsFrom]
  ·refine ⟨l,?_,a⟩
   rw [hp]
   simp only [Builtin.firstCells]
   rw [<- c]
   exact Zd8 P w b o l d
theorem Zlo (z:Array Value) (n:Nat):(Builtin.zeroCells z n).toList=Zbl z.toList n:=by
  unfold Builtin.zeroCells
  exact Zjs z n _ rfl
theorem ZoE {P:Program} {w:World} {t el:TypeId} {ts:Array TypeId} {rt:TypeId} {s:Sl} {x:Value} {n:Nat} {new:List Value} {inf:TypeInfo} {z:Value} {K:Sl->Zc->Prop}
    (ht:ts[0]?=some t) (C:∀ u,ts[1]?=some u->∃ d,P.underlying u=some d/\∀ k,d≠ .int k)
    (hu:P.underlying t=some (.slice el)) (g:P.info? el=some inf) (G:inf.zero=some z)
    (hlen:(Builtin.lenOf x).run P w = .ok n w) (l:∀ w':World,w'.heap=w.heap->(Builtin.firstCells inf.size n x).run P w' = .ok new.toArray w')
    (m:app el inf.size inf.bytes z.cells.toList s n new w.heap K) :
    ∃ s' w',(Builtin.append_ ts rt #[.slice s.ptr s.len s.cap,x]).run P w = .ok (.slice s'.ptr s'.len s'.cap) w'/\Same w w'/\K s' w'.heap:=by
  obtain ⟨p,i⟩:=m
  have r:IntKind.i64.max=9223372036854775807:=by decide
  have v:(2:Nat) ^ 48=281474976710656:=by decide
  have j:∀ (f:s.cap<s.len+n) (W:World),W=w->∃ s' w',
      (do let c <- choose (Question.appendCap (s.len+n) s.cap el)
          let __do_lift <- typeInfo el
          askRoom (c*__do_lift.bytes)
          let old <- Builtin.firstCells inf.size s.len (Value.slice s.ptr s.len s.cap)
          let new <- Builtin.firstCells inf.size n x
          let __do_lift <- zeroValue el
          let __do_lift <- newRow el (old++new++Builtin.zeroCells __do_lift.cells (c - (s.len+n)))
          pure (Value.slice (some __do_lift) (s.len+n) c):Sem Value).run P W = .ok (.slice s'.ptr s'.len s'.cap) w'/\Same w w'/\K s' w'.heap:=by
    rintro f W rfl
    obtain ⟨B,hle,D⟩:=i f
    have H:(Question.appendCap (s.len+n) s.cap el).forced=false:=rfl
    simp only [Awk,run_choose,H,Aqc,if_false,Awl]
    generalize y:(Question.appendCap (s.len+n) s.cap el).cut (W.tape W.drawn (Question.appendCap (s.len+n) s.cap el))=c
    have A:s.len+n<=c/\c<9223372036854775808:=by
      subst y
      simp only [Question.cut]
      have:(2:Nat) ^ 63=9223372036854775808:=by decide
      rw [this]
      have:=Nat.mod_lt (W.tape W.drawn (Question.appendCap (s.len+n) s.cap el)) (show 9223372036854775808 - (s.len+n)>0 by omega)
      omega
    obtain ⟨old,hold,m⟩:=ZAU (P:=P) (w:={ W with drawn:=W.drawn+1 }) D
    simp only [ZbD P _ el g,Awl,run_askRoom,hold,l { W with drawn:=W.drawn+1 } rfl,ZaC P _ el g G,ZdV,Awp]
    refine ⟨⟨some ⟨W.heap.size,0,none⟩,s.len+n,c⟩,_,rfl,⟨rfl,rfl,rfl⟩,?_⟩
    have:=m c A.1 A.2
    rw [<- Zlo] at this
    have e:(old++new++(Builtin.zeroCells z.cells (c - (s.len+n))).toList).toArray=old.toArray++new.toArray++Builtin.zeroCells z.cells (c - (s.len+n)):=by
      apply Axe
      simp
    rw [e] at this
    exact this
  unfold Builtin.append_
  simp only [ht,Axh,Axi,Axj,Awk,Zg P w t hu,Awl,XV P w el g]
  have rest:∀ (q:Prop),¬ q->∃ s' w',(if s.len+n<=s.cap then (do
          let new <- Builtin.firstCells inf.size n x
          match s.ptr with
            | some a=>do
              storeCells (a.add (s.len*inf.size)) new.toList
              pure (Value.slice s.ptr (s.len+n) s.cap)
            | _=>pure (Value.slice s.ptr (s.len+n) s.cap):Sem Value) else stuck "").run P w = .ok (.slice s'.ptr s'.len s'.cap) w'/\Same w w'/\K s' w'.heap\/s.cap<s.len+n:=by
    intro _ _
    rcases Aqd s.cap (s.len+n) with f | hle
    ·exact ⟨⟨none,0,0⟩,w,.inr f⟩
    ·rw [if_pos hle]
     simp only [Awk,l w rfl,Awl]
     rcases p hle with ⟨hp,m⟩ | ⟨b,o,hp,I,J,m⟩
     ·refine ⟨⟨s.ptr,s.len+n,s.cap⟩,w,.inl ⟨?_,Same.refl w,m⟩⟩
      rw [hp]
      cases s.ptr<;>simp [storeCells]
     ·rw [hp]
      refine ⟨⟨some ⟨b,o,none⟩,s.len+n,s.cap⟩,{ w with heap:=Zc.puts w.heap b (o+s.len*inf.size) new },.inl ⟨?_,⟨rfl,rfl,rfl⟩,by rw [hp] at m;exact m⟩⟩
      simp only [Zly,Awk]
      have:=ZeU P b (o+s.len*inf.size) new 0 w (by simpa using I) J
      simp only [Axk] at this
      rw [this]
      rfl
  obtain ⟨E,F,h⟩:=rest False id
  cases L:ts[1]? with
  | none =>
    simp only [Awk,Awp,Awl,Aqc,if_false,hlen,Axl,if_true,false_or]
    rcases Aqd s.cap (s.len+n) with f | hle
    ·rw [if_neg (by omega)]
     obtain ⟨B,hle,_⟩:=i f
     simp only [Awk,ZbD P w el g,Awl]
     rw [if_neg (by rw [r];omega)]
     simp only [Awk,ZbD P w el g,Awl]
     rw [if_neg (by rw [v];have:=ZoT f B;omega)]
     exact j f w rfl
    ·rw [if_pos hle] at h ⊢
     exact ⟨E,F,h.resolve_right (by omega)⟩
  | some u =>
    obtain ⟨d,hd,M⟩:=C u L
    simp only [Awk,Awp,Zg P w u hd,Awl,Aqc,if_false,hlen,Axl,if_true,false_or]
    rcases Aqd s.cap (s.len+n) with f | hle
    ·rw [if_neg (by omega)]
     obtain ⟨B,hle,_⟩:=i f
     simp only [Awk,ZbD P w el g,Awl]
     rw [if_neg (by rw [r];omega)]
     simp only [Awk,ZbD P w el g,Awl]
     rw [if_neg (by rw [v];have:=ZoT f B;omega)]
     exact j f w rfl
    ·rw [if_pos hle] at h ⊢
     exact ⟨E,F,h.resolve_right (by omega)⟩
theorem Znd (P:Program) (f:Value->ByteArray->Sem (ForInStep ByteArray)) (a:∀ n s,f (.int .u8 n) s=pure (ForInStep.yield (s.push (UInt8.ofNat n.toNat)))) :
    ∀ (l:List UInt8) (acc:ByteArray) (w:World),(forIn (l.map fun b=>Value.int .u8 b.toNat) acc f).run P w = .ok (l.foldl ByteArray.push acc) w
  | [],acc,w=>by simp
  | x::l,acc,w=>by
    simp only [Awo,Axm,a,Awk,Awp,Awl,Awq]
    have:=Znd P f a l (acc.push x) w
    simpa using this
theorem Zwo (l:List UInt8):∀ acc:ByteArray,l.foldl ByteArray.push acc=⟨acc.data++l.toArray⟩:=by
  induction l with
  | nil=>intro acc;simp
  | cons x l a =>
    intro acc
    rw [Awq,a]
    simp [ByteArray.push]
theorem Zs4 {P:Program} {w:World} {x:Sl} {K:ByteArray->Prop} (h:b2s x w.heap K) :
    ∃ s,(Conv.bytesToString (.slice x.ptr x.len x.cap)).run P w = .ok (.string s) w/\K s:=by
  rcases h with ⟨hp,a⟩ | ⟨b,o,s,hp,c,d,a⟩
  ·refine ⟨_,?_,a⟩
   rw [hp]
   cases x.ptr<;>rfl
  ·refine ⟨s,?_,a⟩
   rw [hp]
   unfold Conv.bytesToString
   have hlen:(Zbk s).length=x.len:=by rw [<- c];unfold Zbk;simp
   simp only [Awk,<- hlen,Zd8 P w b o _ d,Awl]
   simp only [List.forIn_toArray]
   unfold Zbk
   rw [Znd P _ (fun _ _=>rfl)]
   simp only [Awl,Zwo]
   simp
theorem ZEv {P:Program} {w:World} {el:TypeId} {s:ByteArray} {K:Sl->Zc->Prop} (h:s2b el s w.heap K) :
    ∃ x w',(Conv.stringToBytes el s).run P w = .ok (.slice x.ptr x.len x.cap) w'/\Same w w'/\K x w'.heap:=by
  obtain ⟨m,h⟩:=h
  unfold Conv.stringToBytes
  have k:(Question.appendCap s.size 0 el).forced=false:=rfl
  simp only [Awk,run_choose,k,Aqc,if_false,Awl]
  generalize d:(Question.appendCap s.size 0 el).cut (w.tape w.drawn (Question.appendCap s.size 0 el))=cap
  have f:s.size<=cap/\cap<9223372036854775808:=by
    subst d
    simp only [Question.cut]
    have:(2:Nat) ^ 63=9223372036854775808:=by decide
    rw [this]
    have:=Nat.mod_lt (w.tape w.drawn (Question.appendCap s.size 0 el)) (show 9223372036854775808 - s.size>0 by omega)
    omega
  simp only [ZdV,Awl]
  have g:((s.data.map fun b=>Value.int .u8 b.toNat)++Array.replicate (cap - s.size) (Value.int .u8 0)).size=cap:=by
    simp
    have:s.data.size=s.size:=rfl
    omega
  unfold markStringish
  simp only [Awk,run_shape,Awl,World.shape?,Array.getElem?_push_size,g,run_freeze,Awp]
  refine ⟨⟨some ⟨w.heap.size,0,none⟩,s.size,cap⟩,_,rfl,?_,?_⟩
  ·unfold World.freeze
   simp only [Axn,if_false]
   exact ⟨rfl,rfl,rfl⟩
  ·have:=h cap f.1 f.2
   unfold World.freeze
   simp only [Axn,if_false]
   have e:(w.heap.push (Obj.cells ((s.data.map fun b=>Value.int .u8 b.toNat)++Array.replicate (cap - s.size) (Value.int .u8 0)) el)).modify w.heap.size
       (fun x=>match x with
         | .cells c elem (j,a)=> .cells c elem (if (j ==a)=true then (cap,cap+1) else (min j cap,max a (cap+1)))
         | o=>o)=w.heap.push (.cells (Zbk s++List.replicate (cap - s.size) (Value.int .u8 0)).toArray el (cap,cap+1)):=by
     have l:((s.data.map fun b=>Value.int .u8 b.toNat)++Array.replicate (cap - s.size) (Value.int .u8 0))=(Zbk s++List.replicate (cap - s.size) (Value.int .u8 0)).toArray:=by
       apply Axe
       simp [Zbk]
     rw [l]
     apply Array.ext_getElem?
     intro i
     rw [Aqi]
     by_cases a:w.heap.size=i
     ·subst a
      simp
     ·rw [if_neg a]
      simp [Array.getElem?_push,Ne.symm a]
   exact e▸this
theorem Zfd {b:Bool} {A:Prop} (h:bif b then A else False):b=true/\A:=by
  cases b with
  | true=>exact ⟨rfl,h⟩
  | false=>exact h.elim
theorem Zit {P:Program} {w:World} {s d:TypeId} {k a j:IntKind} {n:Int} (b:P.underlying s=some (.int j)) (hd:P.underlying d=some (.int k)) :
    (convert s d (.int a n)).run P w = .ok (.int k (k.wrap n)) w:=by
  unfold convert
  simp only [Awk,Zg P w s b,Zg P w d hd,Awl]
  rfl
theorem Zkk {P:Program} {w:World} {s d:TypeId} {x:ByteArray} (a:P.underlying s=some .string) (hd:P.underlying d=some .string) :
    (convert s d (.string x)).run P w = .ok (.string x) w:=by
  unfold convert
  simp only [Awk,Zg P w s a,Zg P w d hd,Awl]
  rfl
theorem Zmx {P:Program} {w:World} {s d e:TypeId} {x:ByteArray} (a:P.underlying s=some .string) (hd:P.underlying d=some (.slice e)) (he:P.underlying e=some (.int .u8)) :
    (convert s d (.string x)).run P w=(Conv.stringToBytes e x).run P w:=by
  unfold convert
  simp only [Awk,Zg P w s a,Zg P w d hd,Zg P w e he,Awl]
theorem Ziu {P:Program} {w:World} {s d e:TypeId} {p:Option Addr} {l m:Nat} (a:P.underlying s=some (.slice e)) (hd:P.underlying d=some .string) (he:P.underlying e=some (.int .u8)) :
    (convert s d (.slice p l m)).run P w=(Conv.bytesToString (.slice p l m)).run P w:=by
  unfold convert
  simp only [Awk,Zg P w s a,Zg P w d hd,Zg P w e he,Awl]
theorem ZlB {P:Program} {w:World} {s e g:TypeId} {b o l m:Nat} {c:Array Value} {t:TypeId} (j:P.underlying s=some (.slice g)) (hd:P.underlying s=some (.slice e)) (he:P.underlying e=some (.int .u8))
    (k:w.heap[b]?=some (.cells c t (0,0))):(convert s s (.slice (some ⟨b,o,none⟩) l m)).run P w = .ok (.slice (some ⟨b,o,none⟩) l m) { w with heap:=Zc.frz w.heap b }:=by
  unfold convert
  simp only [Awk,Zg P w s j,Zg P w g (by rw [j] at hd;cases hd;exact he),Awl,BEq.rfl]
  unfold markStringish
  have a:w.shape? b=some (t,c.size):=by unfold World.shape?;rw [k]
  simp only [Awk,run_shape,a,Awl,run_freeze,Awp]
  have d:World.freeze w { block:=b,off:=c.size } 1={ w with heap:=Zc.frz w.heap b }:=by
    unfold World.freeze Zc.frz
    simp only [Axn,if_false]
    refine congrArg (fun h=>({ w with heap:=h }:World)) ?_
    apply Array.ext_getElem?
    intro i
    rw [Aqi,Aqi]
    by_cases f:b=i
    ·subst f
     rw [if_pos rfl,if_pos rfl,k]
     simp
    ·rw [if_neg f,if_neg f]
  rw [d]
def Val (c:Cfg) (o:Oper) (a:Act) (w:World) (K:EV->Zc->Prop):Prop :=
  ∃ v w',(execOp a.eval o).run c.P w = .ok (.value v.v) w'/\Same w w'/\K v w'.heap
theorem Val.wp {c:Cfg} {o:Oper} {a:Act} {w:World} {K:EV->Zc->Prop} {next:Act->World->Prop} {Q:Exit->Act->World->Prop}
    (h:Val c o a w K) (b:∀ v w',Same w w'->K v w'.heap->next (a.put o.dst v.v) w'):o.wpIn (fen c.rnd) 0 c.P a w next Q :=
  let ⟨v,_,d,e,f⟩:=h
  ZBY d (b v _ e f)
theorem Val.of {c:Cfg} {o:Oper} {a:Act} {w w':World} {K:EV->Zc->Prop} {v:EV} {s:Sem Value} (he:execOp a.eval o=(do pure (.value (<- s)))) (b:s.run c.P w = .ok v.v w') (d:Same w w') (e:K v w'.heap) :
    Val c o a w K:=⟨v,w',by rw [he];exact Zx6 b,d,e⟩
def ZtT (c:Cfg) (o:Oper) (a:Act) (h:Zc) (K:EV->Zc->Prop):Prop :=
  ∃ v:EV,(∀ w:World,w.heap=h->(execOp a.eval o).run c.P w = .ok (.value v.v) w)/\K v h
def Zev (c:Cfg) (o:Oper) (a:Act) (h:Zc) (K:EV->Zc->Prop):Prop :=
  ∃ v:EV,(∀ w:World,True->(execOp a.eval o).run c.P w = .ok (.value v.v) w)/\K v h
theorem Zev.q {c:Cfg} {o:Oper} {a:Act} {h:Zc} {K:EV->Zc->Prop} (hp:Zev c o a h K):ZtT c o a h K :=
  let ⟨v,b,d⟩:=hp
  ⟨v,fun w _=>b w trivial,d⟩
theorem Zev.of {c:Cfg} {o:Oper} {a:Act} {h:Zc} {K:EV->Zc->Prop} {v:EV} {s:Sem Value} (he:execOp a.eval o=(do pure (.value (<- s)))) (b:∀ w:World,True->s.run c.P w = .ok v.v w) (d:K v h) :
    Zev c o a h K:=⟨v,fun w hw=>by rw [he];exact Zx6 (b w hw),d⟩
theorem ZtT.val {c:Cfg} {o:Oper} {a:Act} {w:World} {K:EV->Zc->Prop} (h:ZtT c o a w.heap K):Val c o a w K :=
  let ⟨v,b,d⟩:=h
  ⟨v,w,b w rfl,Same.refl w,d⟩
theorem Zev.val {c:Cfg} {o:Oper} {a:Act} {w:World} {K:EV->Zc->Prop} (h:Zev c o a w.heap K):Val c o a w K:=h.q.val
theorem ZtT.of {c:Cfg} {o:Oper} {a:Act} {h:Zc} {K:EV->Zc->Prop} {v:EV} {s:Sem Value} (he:execOp a.eval o=(do pure (.value (<- s)))) (b:∀ w:World,w.heap=h->s.run c.P w = .ok v.v w) (d:K v h) :
    ZtT c o a h K:=⟨v,fun w hw=>by rw [he];exact Zx6 (b w hw),d⟩
section
variable {c:Cfg} {e:Env} {a:Act} {w:World} {h:Zc} {K:EV->Zc->Prop} {dst:Option Tmp} {type:TypeId} {pos:String} {after:Array Edge} {guard:Option (Nat × Bool)}
theorem ZpH (d:Agr c.n e a) {x:Operand} (b:opP c (.move x) e h K):Zev c ⟨dst,.move x,type,pos,after,guard⟩ a h K:=by
  simp only [opP] at b
  split at b
  ·rename_i v f
   exact ⟨v,fun w hw=>by simp [execOp,d.ev f],b⟩
  ·exact b.elim
theorem ZkN (d:Agr c.n e a) {x:Operand} (f:opP c (.assign x) e h K):Zev c ⟨dst,.assign x,type,pos,after,guard⟩ a h K:=by
  simp only [opP] at f
  split at f
  ·rename_i k n g
   exact ⟨.val (.int k n),fun w hw=>by simp [execOp,d.ev g],f⟩
  ·rename_i b g
   exact ⟨.val (.bool b),fun w hw=>by simp [execOp,d.ev g],f⟩
  ·rename_i v _ _ g
   exact ⟨v,fun w hw=>by simp [execOp,d.ev g],f⟩
  ·exact f.elim
theorem ZpG (d:Agr c.n e a) {x y z:Operand} (f:opP c (.pick x y z) e h K):Zev c ⟨dst,.pick x y z,type,pos,after,guard⟩ a h K:=by
  simp only [opP] at f
  split at f
  ·rename_i u g i
   refine ⟨u,fun w hw=>?_,f⟩
   simp only [execOp,d.ev g,d.ev i]
   rfl
  ·rename_i u g i
   refine ⟨u,fun w hw=>?_,f⟩
   simp only [execOp,d.ev g,d.ev i]
   rfl
  ·rename_i b u v g hu j
   split at f
   ·rename_i p q hp k
    refine ⟨_,fun w hw=>?_,f⟩
    simp only [execOp,d.ev g,d.ev hu,d.ev j,hp,k]
    cases b<;>rfl
   ·exact f.elim
  ·exact f.elim
theorem Zxy {t:TypeId} (b:opP c (.alloc t) e w.heap K):Val c ⟨dst,.alloc t,type,pos,after,guard⟩ a w K:=by
  simp only [opP] at b
  split at b
  ·rename_i zs d
   obtain ⟨i,v,f,g,rfl⟩:=ZdU d
   exact .of (v:= .adr w.heap.size 0) rfl (Zx7 c.P w t v f g) ⟨rfl,rfl,rfl⟩ b
  ·exact b.elim
theorem ZEf (d:Agr c.n e a) {t:TypeId} {x:Operand} (b:opP c (.box t x) e w.heap K):Val c ⟨dst,.box t x,type,pos,after,guard⟩ a w K:=by
  simp only [opP] at b
  split at b
  ·rename_i v g
   refine .of (v:= .adr w.heap.size 0) rfl (ZEw c.P w t _) ⟨rfl,rfl,rfl⟩ ?_
   rw [d.ev g]
   cases hd:Zy0 (c.P.underlying t) with
   | true =>
     rw [hd] at b
     obtain ⟨f,b⟩:=(show Y9 _ _ from b)
     have:v.v.cells=[v.v].toArray:=by
       revert f
       cases v.v<;>intro f<;>first | rfl | cases f
     rw [this]
     exact b
   | false =>
     rw [hd] at b
     rw [ZqN]
     exact b
  ·exact b.elim
theorem ZmU (b:Array (Nat × Operand)) (a:Act) (f:Nat × Operand->Nat × Value) (c:∀ x,f x=(x.1,a.eval x.2)):b.map f=(b.toList.map fun x=>(x.1,a.eval x.2)).toArray:=by
  apply Axe
  simp [funext c]
theorem ZA7 {o:Op} {F:Array (Nat × Value)->Sem Value} {b:Array (Nat × Operand)} {f:Nat × Operand->Nat × Value} {v:EV} {w':World}
    (he:execOp a.eval ⟨dst,o,type,pos,after,guard⟩=(do pure (.value (<- F (b.map f))))) (d:∀ x,f x=(x.1,a.eval x.2))
    (e:(F (b.toList.map fun x=>(x.1,a.eval x.2)).toArray).run c.P w = .ok v.v w') (g:Same w w') (h:K v w'.heap):Val c ⟨dst,o,type,pos,after,guard⟩ a w K:=by
  rw [ZmU b a f d] at he
  exact .of he e g h
theorem ZrI {o:Op} {F:Array (Nat × Value)->Sem Value} {b:Array (Nat × Operand)} {f:Nat × Operand->Nat × Value} {v:EV}
    (he:execOp a.eval ⟨dst,o,type,pos,after,guard⟩=(do pure (.value (<- F (b.map f))))) (d:∀ x,f x=(x.1,a.eval x.2))
    (e:∀ w:World,True->(F (b.toList.map fun x=>(x.1,a.eval x.2)).toArray).run c.P w = .ok v.v w) (g:K v h):Zev c ⟨dst,o,type,pos,after,guard⟩ a h K:=by
  rw [ZmU b a f d] at he
  exact .of he e g
theorem Zmg (f:Agr c.n e a) {t:TypeId} {o:Array (Nat × Operand)} (b:opP c (.build t o) e h K):Zev c ⟨dst,.build t o,type,pos,after,guard⟩ a h K:=by
  simp only [opP] at b
  split at b
  ·rename_i fs zs hu k
   split at b
   ·rename_i l m
    obtain ⟨g,b⟩:=Zfd b
    obtain ⟨i,b⟩:=ZoU b
    refine ZrI (F:=Instr.build t) rfl (fun _=>rfl) (fun w hw=>?_) b
    exact ZlC c.P w t hu k g (Zls c.P fs.toList f zs.length m i)
   ·exact b.elim
  ·rename_i n el zs hu k
   split at b
   ·rename_i l m
    obtain ⟨d,b⟩:=Zfd b
    obtain ⟨j,p⟩:=Axd.1 d
    refine ZrI (F:=Instr.build t) rfl (fun _=>rfl) (fun w hw=>?_) b
    exact Zmy c.P w t hu k p (Ziv (c.P.cellsOf el) f zs.length m)
   ·exact b.elim
  ·exact b.elim
theorem ZnQ (d:Agr c.n e a) {t:TypeId} {n:Nat} {f:Array (Nat × Operand)} (b:opP c (.buildSlice t n f) e w.heap K):Val c ⟨dst,.buildSlice t n f,type,pos,after,guard⟩ a w K:=by
  simp only [opP] at b
  split at b
  ·rename_i el hu
   split at b
   ·rename_i zs l g h
    obtain ⟨i,b⟩:=Zfd b
    obtain ⟨j,b⟩:=Zfd b
    have k:=ZnW c.P w t hu g (Awg j) (Awt i) (Ziv (c.P.cellsOf el) d _ h)
    exact ZA7 (F:=Instr.buildSlice t n) (v:= .val (.slice (some ⟨w.heap.size,0,none⟩) n n)) rfl (fun _=>rfl) k ⟨rfl,rfl,rfl⟩ b
   ·exact b.elim
  ·exact b.elim
theorem ZpJ (f:Agr c.n e a) {t:TypeId} {x:Operand} (d:opP c (.load t x) e h K):ZtT c ⟨dst,.load t x,type,pos,after,guard⟩ a h K:=by
  simp only [opP] at d
  split at d
  ·rename_i v g
   obtain ⟨b,o,hp,d⟩:=Zjf d
   obtain ⟨u,i,d⟩:=ZuG d
   refine ZtT.of (s:=Instr.loadAt t (a.eval x)) rfl (fun w hw=>?_) d
   rw [f.ev g,hp]
   exact ZoD (i w hw)
  ·exact d.elim
theorem Zik (f:Agr c.n e a) {x:Operand} (d:opP c (.nilCheck x) e h K):Zev c ⟨dst,.nilCheck x,type,pos,after,guard⟩ a h K:=by
  simp only [opP] at d
  split at d
  ·rename_i v g
   obtain ⟨b,o,hp,d⟩:=Zjf d
   refine ⟨.adr b o,fun w hw=>?_,d⟩
   simp only [execOp,f.ev g,hp]
   rfl
  ·exact d.elim
theorem Zh2 {op:BinOp} {t:TypeId} {x y:Operand} {u v:Value} (h:(∀ cs,u≠ .agg cs)/\u≠ .nilIface):(eqGuard op t x y u v).run c.P w = .ok () w:=by
  unfold eqGuard
  cases op<;>first
    | rfl
    | (cases u<;>first | rfl | exact absurd rfl (h.1 _) | exact absurd rfl h.2)
theorem ZzI {op:BinOp} {x y:EV} {K:EV->Prop} (h:ZCA op x y K):(∀ cs,x.v≠ .agg cs)/\x.v≠ .nilIface:=by
  unfold ZCA at h
  split at h
  ·exact ⟨fun _ h=>(by cases h),fun h=>(by cases h)⟩
  ·exact ⟨fun _ h=>(by cases h),fun h=>(by cases h)⟩
  ·exact h.elim
theorem ZBD {d:Option TypeDesc} {neg:Bool} {x y:EV} {K:EV->Prop} (h:eqP d neg x y K):(∀ cs,x.v≠ .agg cs)/\x.v≠ .nilIface:=by
  unfold eqP at h
  split at h
  ·exact ⟨fun _ h=>(by cases h),fun h=>(by cases h)⟩
  ·exact ⟨fun _ h=>(by cases h),fun h=>(by cases h)⟩
  ·exact ⟨fun _ h=>(by cases h),fun h=>(by cases h)⟩
  ·exact ⟨fun _ h=>(by cases h),fun h=>(by cases h)⟩
  ·split at h
   ·rename_i a _
    rw [a]
    exact ⟨fun _ h=>(by cases h),fun h=>(by cases h)⟩
   ·exact h.elim
  ·exact h.elim
theorem Zh0 {P:Program} {t:TypeId} {x y:Value} {b:Bool} {d:Nat} {w:World} (h:Zh1 (P.underlying t) x y=some b):Zca (P.underlying t)=false/\(P.underlying t).isSome=true/\(Op.equalIn (d+1) t x y).run P w = .ok b w:=by
  unfold Zh1 at h
  split at h
  ·rename_i g k a e c hu
   split at h
   ·rename_i f
    subst f
    simp only [Awh] at h
    subst h
    rw [hu]
    exact ⟨rfl,rfl,run_equalIn_int w d t _ _ _ _ hu⟩
   ·cases h
  ·rename_i a c hu
   simp only [Awh] at h
   subst h
   rw [hu]
   exact ⟨rfl,rfl,run_equalIn_string w d t _ _ hu⟩
  ·rename_i a c hu
   simp only [Awh] at h
   subst h
   rw [hu]
   exact ⟨rfl,rfl,run_equalIn_bool' w d t _ _ hu⟩
  ·cases h
theorem Zc2 {P:Program} {w:World} {t:TypeId} {xs:Array Value} {off:Nat} {x:Value} (a:Zca (P.underlying t)=false) (b:(P.underlying t).isSome=true) (c:xs[off]?=some x):(part t xs off).run P w = .ok x w:=by
  obtain ⟨d,hu⟩:=Axd.1 b
  rw [hu] at a
  unfold part
  simp only [Awk,Ze2 P w t hu,a,Awl,Aqc,if_false,c]
  rfl
theorem Zh3 {P:Program} {xs ys:Array Value} {d:Nat} {w:World}:∀ {fs:List Field} {b:Bool},Zgk P fs xs.toList ys.toList=some b->(Op.eqFields (d+1) xs ys fs).run P w = .ok b w
  | [],b,h=>by
    simp only [Zgk,Awh] at h
    subst h
    rfl
  | f::fs,b,h=>by
    simp only [Zgk] at h
    cases c:f.name == "_" with
    | true=>rw [c] at h;cases h
    | false =>
      rw [c] at h
      simp only [cond_false] at h
      split at h
      ·rename_i x y l m
       split at h
       ·rename_i a r n o
        simp only [Awh] at h
        subst h
        have e:f.name≠ "_" :=by
          intro he
          rw [he] at c
          simp at c
        have g:xs[f.offset]?=some x:=by simpa using l
        have i:ys[f.offset]?=some y:=by simpa using m
        obtain ⟨j,k,p⟩:=Zh0 (d:=d) (w:=w) n
        simp only [Op.eqFields,e,ne_eq,not_false_eq_true,if_true,Awk,Zc2 j k g,Zc2 j k i,p,Awl]
        cases a with
        | true=>simpa using Zh3 o
        | false=>simp
       ·cases h
      ·cases h
theorem Zir {P:Program} {w:World} {t:TypeId} {gs:Array Field} {xs:Array Value} {off:Nat} (hu:P.underlying t=some (.struct gs)) (b:off+P.cellsOf t<=xs.size) :
    (part t xs off).run P w = .ok (.agg ⟨(xs.toList.drop off).take (P.cellsOf t)⟩) w:=by
  obtain ⟨i,a⟩:=Zba P hu
  unfold part
  simp only [Awk,Ze2 P w t hu,Awl,Zca,if_true,XV P w t a,Awp]
  rw [Zcb P a]
  congr 2
  apply Axe
  simp [List.take_drop,Nat.add_comm]
theorem Zmw {P:Program} {w:World} {t el:TypeId} {n:Nat} {gs:Array Field} {cs:Array Value} {k:IntKind} {i:Int} (hu:P.underlying t=some (.array n el)) (he:P.underlying el=some (.struct gs)) (b:0<=i) (c:i<n) (d:cs.toList.length=n*P.cellsOf el) :
    (Instr.index t (.agg cs) (.int k i)).run P w = .ok (.agg ⟨(cs.toList.drop (i.toNat*P.cellsOf el)).take (P.cellsOf el)⟩) w:=by
  obtain ⟨inf,a⟩:=Zba P he
  have e:P.cellsOf el=inf.size:=by unfold Program.cellsOf;rw [a];rfl
  have f:i.toNat*P.cellsOf el+P.cellsOf el<=cs.size:=by
    have g:i.toNat+1<=n:=by omega
    have:=Aqz (P.cellsOf el) g
    rw [Aqy,Nat.one_mul,<- d] at this
    simpa using this
  have:=Zir (w:=w) (xs:=cs) he f
  unfold Instr.index asIntOf
  simp only [Awk,Awp,Awl,Zg P w t hu,if_pos (And.intro b c),XV P w el a,<- e]
  exact this
theorem Zg7 {P:Program} {xs ys:Array Value} {d:Nat} {w:World}:∀ {fs:List Field} {b:Bool},ZfN P fs xs.toList ys.toList=some b->(Op.eqFields (d+1+1) xs ys fs).run P w = .ok b w
  | [],b,h=>by
    simp only [ZfN,Awh] at h
    subst h
    rfl
  | f::fs,b,h=>by
    simp only [ZfN] at h
    cases g:f.name == "_" with
    | true=>rw [g] at h;cases h
    | false =>
      rw [g] at h
      simp only [cond_false] at h
      have e:f.name≠ "_" :=by
        intro he
        rw [he] at g
        simp at g
      split at h
      ·rename_i gs hu
       cases c:P.stoodInHeld f.type with
       | true=>rw [c] at h;cases h
       | false =>
         rw [c] at h
         simp only [cond_false] at h
         cases hle:(Nat.ble (f.offset+P.cellsOf f.type) xs.toList.length&&Nat.ble (f.offset+P.cellsOf f.type) ys.toList.length) with
         | false=>rw [hle] at h;cases h
         | true =>
           rw [hle] at h
           simp only [cond_true] at h
           simp only [Awn,Nat.ble_eq,Awa] at hle
           split at h
           ·rename_i a r i j
            simp only [Awh] at h
            subst h
            have n:P.fieldsOf f.type=gs:=by unfold Program.fieldsOf;rw [hu]
            have k:(Op.equalIn (d+1+1) f.type (.agg ⟨(xs.toList.drop f.offset).take (P.cellsOf f.type)⟩) (.agg ⟨(ys.toList.drop f.offset).take (P.cellsOf f.type)⟩)).run P w = .ok a w:=by
              rw [run_equalIn_agg w _ f.type _ _ (by rw [n];exact hu) c,n]
              exact Zh3 i
            simp only [Op.eqFields,e,ne_eq,not_false_eq_true,if_true,Awk,Zir hu hle.1,Zir hu hle.2,k,Awl]
            cases a with
            | true=>simpa using Zg7 j
            | false=>simp
           ·cases h
      ·rename_i u q
       split at h
       ·rename_i x y s t
        split at h
        ·rename_i a r i j
         simp only [Awh] at h
         subst h
         have l:xs[f.offset]?=some x:=by simpa using s
         have m:ys[f.offset]?=some y:=by simpa using t
         obtain ⟨o,p,k⟩:=Zh0 (d:=d+1) (w:=w) i
         simp only [Op.eqFields,e,ne_eq,not_false_eq_true,if_true,Awk,Zc2 o p l,Zc2 o p m,k,Awl]
         cases a with
         | true=>simpa using Zg7 j
         | false=>simp
        ·cases h
       ·cases h
theorem Zzp {P:Program} {t:TypeId} {fs:Array Field} {x y:EV} {K:Bool->Prop} (hu:P.underlying t=some (.struct fs)) (a:eqS P t fs x y K) :
    ∃ (xs ys:Array Value) (b:Bool),x.v = .agg xs/\y.v = .agg ys/\P.eqGuardType P.depth t=false/\(∀ w,(Op.equalIn 10000 t (.agg xs) (.agg ys)).run P w = .ok b w)/\K b:=by
  unfold eqS at a
  split at a
  ·rename_i xs ys
   cases c:(P.stoodInHeld t||P.eqGuardType P.depth t) with
   | true=>rw [c] at a;exact a.elim
   | false =>
     rw [c] at a
     simp only [cond_false] at a
     rw [Bool.or_eq_false_iff] at c
     split at a
     ·rename_i b e
      have d:P.fieldsOf t=fs:=by unfold Program.fieldsOf;rw [hu]
      refine ⟨xs,ys,b,rfl,rfl,c.2,fun w=>?_,a⟩
      rw [show (10000:Nat)=9997+1+1+1 from rfl,run_equalIn_agg w _ t xs ys (by rw [d];exact hu) c.1,d]
      exact Zg7 e
     ·exact a.elim
  ·exact a.elim
theorem Zno {op:BinOp} {t:TypeId} {x:Operand} {u:Value} {w:World} (h:∀ cs,u≠ .agg cs):(eqGuard op t x (.const .nilIface) u .nilIface).run c.P w = .ok () w:=by
  unfold eqGuard
  cases op<;>first
    | rfl
    | (cases u<;>first | rfl | exact absurd rfl (h _) | (simp [Awp]))
theorem Zmh (g:Agr c.n e a) {op:BinOp} {t q:TypeId} {x y:Operand} (f:opP c (.binOp op t x y q) e h K):Zev c ⟨dst,.binOp op t x y q,type,pos,after,guard⟩ a h K:=by
  have bin:∀ {u v:EV},e.ev x=some u->e.ev y=some v->ZCA op u v (fun v=>K v h)->Zev c ⟨dst,.binOp op t x y q,type,pos,after,guard⟩ a h K:=by
    intro u v hu i j
    obtain ⟨r,o,f⟩:=ZBM (P:=c.P) (t:=t) j
    refine Zev.of (s:=do eqGuard op t x y (a.eval x) (a.eval y);binOp op t (a.eval x) (a.eval y)) rfl (fun w hw=>?_) f
    rw [g.ev hu,g.ev i]
    simp only [Awk,Zh2 (ZzI j),Awl,o w]
  have p:∀ {u v:EV} {neg:Bool},op=(bif neg then .neq else .eql)->e.ev x=some u->e.ev y=some v->eqP (c.P.underlying t) neg u v (fun v=>K v h)->Zev c ⟨dst,.binOp op t x y q,type,pos,after,guard⟩ a h K:=by
    rintro u v neg rfl hu i j
    obtain ⟨r,o,f⟩:=ZFk (P:=c.P) j
    refine Zev.of (s:=do eqGuard (bif neg then .neq else .eql) t x y (a.eval x) (a.eval y);binOp (bif neg then .neq else .eql) t (a.eval x) (a.eval y)) rfl (fun w hw=>?_) f
    rw [g.ev hu,g.ev i]
    simp only [Awk,Zh2 (ZBD j),Awl,o w]
  have l:∀ {u:EV} {neg:Bool} {ms:Array (String × TypeId)} {m:TypeId},op=(bif neg then .neq else .eql)->c.P.underlying t=some (.interface ms)->e.ev x=some u->Zo2 u.v (fun b=>K (.val (.bool (bif neg then !b else b))) h)->Zev c ⟨dst,.binOp op t x (.const .nilIface) m,type,pos,after,guard⟩ a h K:=by
    rintro u neg ms m rfl d hu j
    rcases j with ⟨i,j⟩ | ⟨t2,E,i,j⟩
    ·refine Zev.of (s:=do eqGuard (bif neg then .neq else .eql) t x (.const .nilIface) (a.eval x) .nilIface;binOp (bif neg then .neq else .eql) t (a.eval x) .nilIface) rfl (fun w hw=>?_) j
     rw [g.ev hu,i]
     have:=ZqH w d
     cases neg<;>simp only [cond_true,cond_false,EV.v,binOp,Awk,Zno (u:=Value.nilIface) (fun _ h=>(by cases h)),this,Awl]<;>rfl
    ·refine Zev.of (s:=do eqGuard (bif neg then .neq else .eql) t x (.const .nilIface) (a.eval x) .nilIface;binOp (bif neg then .neq else .eql) t (a.eval x) .nilIface) rfl (fun w hw=>?_) j
     rw [g.ev hu,i]
     have:=Znn w d t2 E
     cases neg<;>simp only [cond_true,cond_false,EV.v,binOp,Awk,Zno (u:=Value.iface t2 E) (fun _ h=>(by cases h)),this,Awl]<;>rfl
  have k:∀ {u:EV} {neg:Bool} {z rs:Array TypeId} {A:Bool} {m:TypeId},op=(bif neg then .neq else .eql)->c.P.underlying t=some (.func z rs A)->e.ev x=some u->ZuI u.v (fun b=>K (.val (.bool (bif neg then !b else b))) h)->Zev c ⟨dst,.binOp op t x (.const .nilFunc) m,type,pos,after,guard⟩ a h K:=by
    rintro u neg z rs A m rfl d hu j
    rcases j with ⟨i,j⟩ | ⟨f2,a2,F,i,j⟩
    ·refine Zev.of (s:=do eqGuard (bif neg then .neq else .eql) t x (.const .nilFunc) (a.eval x) .nilFunc;binOp (bif neg then .neq else .eql) t (a.eval x) .nilFunc) rfl (fun w hw=>?_) j
     rw [g.ev hu,i]
     have:=Zn9 w d
     cases neg<;>simp only [cond_true,cond_false,EV.v,binOp,Awk,Zh2 (u:=Value.nilFunc) ⟨fun _ h=>(by cases h),fun h=>(by cases h)⟩,this,Awl]<;>rfl
    ·refine Zev.of (s:=do eqGuard (bif neg then .neq else .eql) t x (.const .nilFunc) (a.eval x) .nilFunc;binOp (bif neg then .neq else .eql) t (a.eval x) .nilFunc) rfl (fun w hw=>?_) j
     rw [g.ev hu,i]
     have:=Zoa w d f2 a2 F
     cases neg<;>simp only [cond_true,cond_false,EV.v,binOp,Awk,Zh2 (u:=Value.func f2 a2 F) ⟨fun _ h=>(by cases h),fun h=>(by cases h)⟩,this,Awl]<;>rfl
  simp only [opP] at f
  split at f
  ·rename_i u v hu i
   split at f
   ·exact bin hu i f
   ·exact bin hu i f
   ·exact bin hu i f
   ·exact bin hu i f
   ·rename_i fs d
    obtain ⟨xs,ys,b,B,C,D,o,f⟩:=Zzp d f
    refine Zev.of (v:= .val (.bool b)) (s:=do eqGuard .eql t x y (a.eval x) (a.eval y);binOp .eql t (a.eval x) (a.eval y)) rfl (fun w hw=>?_) f
    rw [g.ev hu,g.ev i,B,C]
    simp only [Awk,run_eqGuard_agg w .eql t x y xs ys D,Awl,run_eql_struct,o w]
    rfl
   ·rename_i fs d
    obtain ⟨xs,ys,b,B,C,D,o,f⟩:=Zzp d f
    refine Zev.of (v:= .val (.bool (!b))) (s:=do eqGuard .neq t x y (a.eval x) (a.eval y);binOp .neq t (a.eval x) (a.eval y)) rfl (fun w hw=>?_) f
    rw [g.ev hu,g.ev i,B,C]
    simp only [Awk,run_eqGuard_agg w .neq t x y xs ys D,Awl,run_neq_struct,o w]
    rfl
   ·rename_i ms d
    split at f
    ·exact l (neg:=false) rfl d hu f
    ·exact f.elim
   ·rename_i ms d
    split at f
    ·exact l (neg:=true) rfl d hu f
    ·exact f.elim
   ·rename_i z rs A d
    split at f
    ·exact k (neg:=false) rfl d hu f
    ·exact f.elim
   ·rename_i z rs A d
    split at f
    ·exact k (neg:=true) rfl d hu f
    ·exact f.elim
   ·exact p (neg:=false) rfl hu i f
   ·exact p (neg:=true) rfl hu i f
   ·exact bin hu i f
  ·exact f.elim
theorem ZpF (d:Agr c.n e a) {op:UnOp} {t:TypeId} {x:Operand} (f:opP c (.unOp op t x) e h K):Zev c ⟨dst,.unOp op t x,type,pos,after,guard⟩ a h K:=by
  simp only [opP] at f
  split at f
  ·rename_i b g
   refine ⟨_,fun w hw=>?_,f⟩
   simp only [execOp,d.ev g,EV.v]
   rfl
  ·rename_i b g
   refine ⟨_,fun w hw=>?_,f⟩
   simp only [execOp,d.ev g,EV.v]
   rfl
  ·rename_i k n g
   refine ⟨_,fun w hw=>?_,f⟩
   simp only [execOp,d.ev g,EV.v]
   rfl
  ·exact f.elim
theorem Zim (g:Agr c.n e a) {s d:TypeId} {x:Operand} {j k:IntKind} (i:c.P.underlying s=some (.int j)) (hd:c.P.underlying d=some (.int k)) (f:opP c (.convert s d x) e h K) :
    Zev c ⟨dst,.convert s d x,type,pos,after,guard⟩ a h K:=by
  simp only [opP,i,hd] at f
  split at f
  ·rename_i o p n b l m
   cases l
   refine Zev.of (s:=convert s d (a.eval x)) rfl (fun w hw=>?_) f
   rw [g.ev m]
   exact Zit i hd
  all_goals first
    | exact f.elim
    | (rename_i b _ _;cases b)
    | (rename_i b _;cases b)
    | (rename_i b;cases b)
theorem ZsS (g:Agr c.n e a) {s d:TypeId} {x:Operand} (f:opP c (.convert s d x) e w.heap K):Val c ⟨dst,.convert s d x,type,pos,after,guard⟩ a w K:=by
  simp only [opP] at f
  split at f
  ·rename_i j k D n h hd i
   refine .of (s:=convert s d (a.eval x)) rfl ?_ (Same.refl w) f
   rw [g.ev i]
   exact Zit h hd
  ·rename_i y h hd i
   refine .of (s:=convert s d (a.eval x)) rfl ?_ (Same.refl w) f
   rw [g.ev i]
   exact Zkk h hd
  ·rename_i el y h hd i
   split at f
   ·rename_i he
    obtain ⟨r,w',u,z,f⟩:=ZEv (P:=c.P) f
    refine .of (v:= .val (.slice r.ptr r.len r.cap)) (s:=convert s d (a.eval x)) rfl ?_ z f
    rw [g.ev i]
    exact (Zmx h hd he).trans u
   ·exact f.elim
  ·rename_i el p l m h hd i
   split at f
   ·rename_i he
    obtain ⟨r,u,f⟩:=Zs4 (P:=c.P) f
    refine .of (v:= .val (.string r)) (s:=convert s d (a.eval x)) rfl ?_ (Same.refl w) f
    rw [g.ev i]
    exact (Ziu h hd he).trans u
   ·exact f.elim
  ·rename_i E el p l m h hd i
   split at f
   ·rename_i he
    obtain ⟨A,B⟩:=Zfd f
    clear f
    have q:=Awg A
    subst q
    obtain ⟨b,o,F,t,rfl,C,f⟩:=B
    refine .of (v:= .val (.slice (some ⟨b,o,none⟩) l m)) (w':={ w with heap:=Zc.frz w.heap b }) (s:=convert s s (a.eval x)) rfl ?_ ⟨rfl,rfl,rfl⟩ f
    rw [g.ev i]
    exact ZlB h hd he C
   ·exact f.elim
  ·exact f.elim
theorem ZpI (d:Agr c.n e a) {t:TypeId} {x y:Operand} (b:opP c (.makeSlice t x y) e w.heap K):Val c ⟨dst,.makeSlice t x y,type,pos,after,guard⟩ a w K:=by
  simp only [opP] at b
  split at b
  ·rename_i el k l E m hu p q
   split at b
   ·rename_i size bytes zs r u
    obtain ⟨hlen,g⟩:=Zfd b
    clear b
    obtain ⟨A,B,C,D,h⟩:=g
    obtain ⟨i,z,o,j,rfl⟩:=ZdU u
    obtain ⟨F,f,rfl,rfl⟩:=ZfL r
    rw [o] at f
    cases f
    refine .of (v:= .val (.slice (some ⟨w.heap.size,0,none⟩) l.toNat m.toNat)) (w':={ w with heap:=w.heap.push (.cells (Zbl z.cells.toList m.toNat).toArray el)}) (s:=Instr.makeSlice t (a.eval x) (a.eval y)) rfl ?_ ⟨rfl,rfl,rfl⟩ h
    rw [d.ev p,d.ev q]
    exact Zp4 hu o j (by have:=Awg hlen;simpa using this) A B C D
   ·exact b.elim
  ·exact b.elim
end
end Go.Fw
