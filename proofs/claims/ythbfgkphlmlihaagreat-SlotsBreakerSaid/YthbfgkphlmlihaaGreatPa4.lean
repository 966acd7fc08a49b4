/- Why a reading is right: each operation, whole. -/
import Derived.Laws.StructEq
import Derived.Test.YthbfgkphlmlihaaGreatPa3
set_option linter.unusedVariables false
set_option linter.unusedSimpArgs false
namespace Go.Fw
open Go
theorem ZbU (P:Program) (w:World) (t:TypeId) (cs:Array Value):(newRow t cs).run P w = .ok ⟨w.heap.size,0,none⟩ { w with heap:=w.heap.push (.cells cs t)}:=by
  unfold newRow
  simp
theorem Zpu (P:Program) (w:World) (t:TypeId) (v:Value) {i:TypeInfo} (hi:P.info? t=some i) (hv:i.zero=some v) :
    (Instr.alloc t true (.tuple #[])).run P w = .ok (.pointer (some ⟨w.heap.size,0,none⟩)) { w with heap:=w.heap.push (.cells v.cells t)}:=by
  unfold Instr.alloc newVar
  simp [XO P w t hi hv,ZbU]
theorem Zs2 (P:Program) (w:World) (t:TypeId) (v:Value) :
    (Instr.box t v).run P w = .ok (.pointer (some ⟨w.heap.size,0,none⟩)) { w with heap:=w.heap.push (.cells v.cells t)}:=by
  unfold Instr.box newVar
  simp [ZbU]
theorem Zic (P:Program) (w:World):∀ (l:List Field),(∀ f∈l,∃ i,P.info? f.type=some i) →
    (l.mapM fun f=>(do pure (f.offset,← sizeOf f.type):Sem (Nat × Nat))).run P w = .ok (l.map fun f=>(f.offset,P.cellsOf f.type)) w
  | [],_=>by simp
  | f::l,h=>by
    obtain ⟨i,hi⟩:=h f (by simp)
    have ih:=Zic P w l (fun g hg=>h g (by simp [hg]))
    rw [List.mapM_cons]
    simp only [Sem.run_bind,Xm P w f.type hi,Result.andThen_ok,Sem.run_pure,ih,List.map_cons,Za3 P hi]
theorem Zhr (P:Program) (w:World) (t:TypeId) {fs:Array Field} {zs:List Value} {ps:List (Nat × Value)} {l:List (Nat × List Value)}
    (hu:P.underlying t=some (.struct fs)) (hz:Zho P t=some zs) (hall:(fs.toList.all fun f=>(P.info? f.type).isSome)=true)
    (hf:ZtC (fun i=>(fs.toList[i]?).map fun f=>(f.offset,P.cellsOf f.type)) zs.length ps l) :
    (Instr.build t ps.toArray).run P w = .ok (.agg (ZdE zs l).toArray) w:=by
  obtain ⟨i,v,hi,hv,rfl⟩:=ZbT hz
  unfold Instr.build
  simp only [Sem.run_bind,XO P w t hi hv,Result.andThen_ok,Zk P w t hu]
  rw [Array.mapM_eq_mapM_toList]
  simp only [Sem.run_map,Zic P w fs.toList (fun f hf=>by
    have:=List.all_eq_true.1 hall f hf
    exact Option.isSome_iff_exists.1 this),Result.andThen_ok]
  have:=Zd0 (fun (x:Nat)=>((fs.toList.map fun (f:Field)=>(f.offset,P.cellsOf f.type)).toArray)[x]?) v.cells.toList.length ps l v.cells (by simp) (by
    have e:(fun (x:Nat)=>((fs.toList.map fun (f:Field)=>(f.offset,P.cellsOf f.type)).toArray)[x]?)=(fun (i:Nat)=>(fs.toList[i]?).map fun (f:Field)=>(f.offset,P.cellsOf f.type)):=by
      funext x
      simp
    rw [e];exact hf)
  simp only [this]
  rfl
theorem ZhS (P:Program) (w:World) (t:TypeId) {n:Nat} {el:TypeId} {zs:List Value} {ps:List (Nat × Value)} {l:List (Nat × List Value)} {j:TypeInfo}
    (hu:P.underlying t=some (.array n el)) (hz:Zho P t=some zs) (hj:P.info? el=some j)
    (hf:ZtC (fun i=>some (i*P.cellsOf el,P.cellsOf el)) zs.length ps l) :
    (Instr.build t ps.toArray).run P w = .ok (.agg (ZdE zs l).toArray) w:=by
  obtain ⟨i,v,hi,hv,rfl⟩:=ZbT hz
  unfold Instr.build
  simp only [Sem.run_bind,XO P w t hi hv,Result.andThen_ok,Zk P w t hu,Xm P w el hj]
  have:=Zd0 (fun i=>some (i*j.size,j.size)) v.cells.toList.length ps l v.cells (by simp) (by rw [Za3 P hj] at hf;exact hf)
  simp only [this]
  rfl
theorem ZiQ (P:Program) (w:World) (t:TypeId) {n:Nat} {el:TypeId} {zs:List Value} {ps:List (Nat × Value)} {l:List (Nat × List Value)}
    (hu:P.underlying t=some (.slice el)) (hz:Zho P el=some zs) (hs:zs.length=P.cellsOf el) (hle:n*P.cellsOf el≤Zgz)
    (hf:ZtC (fun i=>some (i*P.cellsOf el,P.cellsOf el)) (n*P.cellsOf el) ps l) :
    (Instr.buildSlice t n ps.toArray).run P w = .ok (.slice (some ⟨w.heap.size,0,none⟩) n n) { w with heap:=w.heap.push (.cells (ZdE (X6 zs n) l).toArray el)}:=by
  obtain ⟨i,v,hi,hv,rfl⟩:=ZbT hz
  have hsz:=Za3 P hi
  unfold Instr.buildSlice
  simp only [Sem.run_bind,Zk P w t hu,Result.andThen_ok,Xm P w el hi]
  rw [hsz] at hs hle hf
  have h24:¬ (n*i.size>2 ^ 24):=by
    have:(2:Nat) ^ 24=Zgz:=by unfold Zgz;decide
    omega
  have hlen:v.cells.size=i.size:=by simpa using hs
  have fin:∀ z:Array Value,((Array.range (n*i.size)).map (fun x=>z[x % z.size]!)).toList=X6 v.cells.toList n →
      Instr.fill (fun j=>some (j*i.size,i.size)) ((Array.range (n*i.size)).map (fun x=>z[x % z.size]!)) ps=some (ZdE (X6 v.cells.toList n) l).toArray:=by
    intro z hz'
    have:=Zd0 (fun j=>some (j*i.size,i.size)) (n*i.size) ps l ((Array.range (n*i.size)).map (fun x=>z[x % z.size]!)) (by simp) hf
    rw [hz'] at this
    exact this
  simp only [if_neg h24]
  by_cases h:n*i.size=0
  ·rw [if_pos h]
   have hz0:X6 v.cells.toList n=[]:=List.eq_nil_of_length_eq_zero (by rw [Zeu];simpa [hlen] using h)
   simp only [Sem.run_bind,Sem.run_pure,Result.andThen_ok]
   rw [fin #[] (by rw [hz0];simp [h])]
   simp only [Sem.run_bind,ZbU,Result.andThen_ok,Sem.run_pure]
  ·rw [if_neg h]
   simp only [Sem.run_bind,XO P w el hi hv,Sem.run_pure,Result.andThen_ok]
   rw [fin v.cells (ZfU v.cells n _ (by rw [hlen]))]
   simp only [Sem.run_bind,ZbU,Result.andThen_ok,Sem.run_pure]
theorem Zjc {P:Program} {w:World} {t:TypeId} {b o:Nat} {v:Value} (h:(loadVar t ⟨b,o,none⟩).run P w = .ok v w) :
    (Instr.loadAt t (.pointer (some ⟨b,o,none⟩))).run P w = .ok v w:=by
  unfold Instr.loadAt Instr.sureAddr
  simp [h]
theorem ZlU {P:Program} {w w':World} {t:TypeId} {b o:Nat} {v:Value} (h:(storeVar t ⟨b,o,none⟩ v).run P w = .ok () w') :
    (Instr.storeAt t (.pointer (some ⟨b,o,none⟩)) v).run P w = .ok () w':=by
  unfold Instr.storeAt Instr.sureAddr
  simp [h]
theorem ZlW {P:Program} {w:World} {s:TypeId} {b o f:Nat} {fs:Array Field} {fd:Field} (hu:P.underlying s=some (.struct fs)) (hf:fs.toList[f]?=some fd)
    (hn:P.cellsOf fd.type≠0):(Instr.fieldAt s (.pointer (some ⟨b,o,none⟩)) f).run P w = .ok (.pointer (some ⟨b,o+fd.offset,none⟩)) w:=by
  unfold Instr.fieldAt Instr.sureAddr fieldPlace
  cases hi:P.info? fd.type with
  | none=>unfold Program.cellsOf at hn;simp [hi] at hn
  | some i =>
    have hf':fs[f]?=some fd:=by simpa using hf
    have h0:i.size≠0:=by rw [← Za3 P hi];exact hn
    simp only [Sem.run_bind,Zk P w s hu,Result.andThen_ok,hf',Sem.run_pure,Xm P w _ hi,if_neg h0,ZiG]
theorem ZgO {P:Program} {w:World} {t el:TypeId} {b o l m size:Nat} {k:IntKind} {i:Int} {inf:TypeInfo} (hu:P.underlying t=some (.slice el)) (hi:P.info? el=some inf) (hs:inf.size=size)
    (h0:0≤i) (h1:i<l):(Instr.indexAt t (.slice (some ⟨b,o,none⟩) l m) (.int k i)).run P w = .ok (.pointer (some ⟨b,o+i.toNat*size,none⟩)) w:=by
  unfold Instr.indexAt asIntOf
  simp only [Sem.run_bind,Sem.run_pure,Result.andThen_ok,Zk P w t hu]
  simp [h0,h1,Xm P w el hi,hs,ZiG]
theorem ZgP {P:Program} {w:World} {t el:TypeId} {b o n size:Nat} {k:IntKind} {i:Int} {inf:TypeInfo} (hu:P.underlying t=some (.array n el)) (hi:P.info? el=some inf) (hs:inf.size=size)
    (h0:0≤i) (h1:i<n):(Instr.indexAt t (.pointer (some ⟨b,o,none⟩)) (.int k i)).run P w = .ok (.pointer (some ⟨b,o+i.toNat*size,none⟩)) w:=by
  unfold Instr.indexAt asIntOf Instr.sureAddr
  simp only [Sem.run_bind,Sem.run_pure,Result.andThen_ok,Zk P w t hu]
  simp [h0,h1,Xm P w el hi,hs,ZiG]
theorem Zhp {P:Program} {w:World} {t:TypeId} {s:ByteArray} {k:IntKind} {i:Int} {x:UInt8} (hu:P.underlying t=some .string) (h0:0≤i) (hx:s[i.toNat]?=some x) :
    (Instr.index t (.string s) (.int k i)).run P w = .ok (.int .u8 x.toNat) w:=by
  unfold Instr.index asIntOf
  simp only [Sem.run_bind,Sem.run_pure,Result.andThen_ok,Zk P w t hu,if_pos h0,hx]
theorem Zkh {P:Program} {w:World} {s:TypeId} {cs:Array Value} {f:Nat} {fs:Array Field} {fd:Field} {v:Value} {d:TypeDesc} (hu:P.underlying s=some (.struct fs)) (hf:fs.toList[f]?=some fd)
    (hd:P.underlying fd.type=some d) (ha:Za0 (some d)=false) (hv:cs.toList[fd.offset]?=some v):(Instr.field s (.agg cs) f).run P w = .ok v w:=by
  unfold Instr.field part asAgg
  have hf':fs[f]?=some fd:=by simpa using hf
  have hv':cs[fd.offset]?=some v:=by simpa using hv
  simp [Zk P w s hu,hf',ZcX P w _ hd,ha,hv']
theorem Zki {P:Program} {w:World} {s:TypeId} {cs:Array Value} {f:Nat} {fs:Array Field} {fd:Field} {d:TypeDesc} {inf:TypeInfo} (hu:P.underlying s=some (.struct fs)) (hf:fs.toList[f]?=some fd)
    (hd:P.underlying fd.type=some d) (ha:Za0 (some d)=true) (hi:P.info? fd.type=some inf) :
    (Instr.field s (.agg cs) f).run P w = .ok (.agg ((cs.toList.drop fd.offset).take inf.size).toArray) w:=by
  unfold Instr.field part asAgg
  have hf':fs[f]?=some fd:=by simpa using hf
  simp only [Sem.run_bind,Zk P w s hu,Result.andThen_ok,hf',Sem.run_pure,ZcX P w _ hd,ha,if_true,Xm P w _ hi]
  congr 2
  apply Array.ext'
  simp [List.extract_eq_take_drop]
theorem ZeT {P:Program} {w:World} {k:IntKind} {i:Int} {y:Nat} {code:BoundsCode} (h0:0≤i) (h1:i≤y):(Instr.sliceBound (.int k i) y code).run P w = .ok i.toNat w:=by
  unfold Instr.sliceBound asIntOf
  simp [h0,h1]
theorem Zpz {d n:Int} {x:Option (Option EV)} (h:ZrK d x=some n):(x=none∧n=d)∨∃ k,x=some (some (.val (.int k n))):=by
  unfold ZrK at h
  split at h
  ·simp only [Option.some.injEq] at h;exact .inl ⟨rfl,h.symm⟩
  ·simp only [Option.some.injEq] at h;subst h;exact .inr ⟨_,rfl⟩
  ·cases h
theorem ZjM {P:Program} {w:World} {isSlice:Bool} {len cap:Nat} {lo hi mx:Option Value} {l h m:Int}
    (hlo:(lo=none∧l=0)∨∃ k,lo=some (.int k l)) (hhi:(hi=none∧h=len)∨∃ k,hi=some (.int k h)) (hmx:(mx=none∧m=cap)∨∃ k,mx=some (.int k m))
    (hno:hi=none→mx=none) (h0:0≤l) (h1:l≤h) (h2:h≤m) (h3:m≤cap) :
    (Instr.sliceBounds isSlice len cap lo hi mx).run P w = .ok (l.toNat,h.toNat,m.toNat) w:=by
  unfold Instr.sliceBounds
  have e1:(m.toNat:Int)=m:=Int.toNat_of_nonneg (by omega)
  have e2:(h.toNat:Int)=h:=Int.toNat_of_nonneg (by omega)
  rcases hmx with ⟨rfl,rfl⟩ | ⟨km,rfl⟩
  ·rcases hhi with ⟨rfl,rfl⟩ | ⟨kh,rfl⟩
   ·rcases hlo with ⟨rfl,rfl⟩ | ⟨kl,rfl⟩
    ·simp
    ·simp [ZeT h0 h1]
   ·rcases hlo with ⟨rfl,rfl⟩ | ⟨kl,rfl⟩
    ·simp only [Sem.run_bind,Sem.run_pure,Result.andThen_ok,ZeT (k:=kh) (y:=cap) (by omega:0≤h) (by omega)]
     simp
    ·simp only [Sem.run_bind,Sem.run_pure,Result.andThen_ok,ZeT (k:=kh) (y:=cap) (by omega:0≤h) (by omega),ZeT (k:=kl) (y:=h.toNat) h0 (by omega)]
     simp
  ·rcases hhi with ⟨rfl,rfl⟩ | ⟨kh,rfl⟩
   ·cases hno rfl
   ·simp only [Sem.run_bind,ZeT (k:=km) (y:=cap) (by omega:0≤m) h3,Result.andThen_ok,ZeT (k:=kh) (y:=m.toNat) (by omega:0≤h) (by omega)]
    rcases hlo with ⟨rfl,rfl⟩ | ⟨kl,rfl⟩
    ·simp
    ·simp only [Sem.run_bind,ZeT (k:=kl) (y:=h.toNat) h0 (by omega),Result.andThen_ok,Sem.run_pure]
theorem ZgM {P:Program} {w:World} {t el:TypeId} {p:Option Addr} {len cap size:Nat} {lo hi mx:Option Value} {l h m:Int} {inf:TypeInfo}
    (hu:P.underlying t=some (.slice el)) (hinf:P.info? el=some inf) (hs:inf.size=size)
    (hb:(Instr.sliceBounds true len cap lo hi mx).run P w = .ok (l.toNat,h.toNat,m.toNat) w) :
    (Instr.sliceAt t (.slice p len cap) lo hi mx).run P w = .ok (.slice (ZsZ p l.toNat m.toNat size) (h.toNat - l.toNat) (m.toNat - l.toNat)) w:=by
  unfold Instr.sliceAt Instr.slice ZsZ
  simp only [Sem.run_bind,Zk P w t hu,Result.andThen_ok,hb,Xm P w el hinf,hs,Sem.run_pure]
theorem Zgg {P:Program} {w:World} {t:TypeId} {s:ByteArray} {lo hi:Option Value} {l h:Int} {m:Nat}
    (hu:P.underlying t=some .string) (hb:(Instr.sliceBounds false s.size s.size lo hi none).run P w = .ok (l.toNat,h.toNat,m) w) :
    (Instr.sliceAt t (.string s) lo hi none).run P w = .ok (.string (s.extract l.toNat h.toNat)) w:=by
  unfold Instr.sliceAt Instr.slice
  simp only [Sem.run_bind,Zk P w t hu,Result.andThen_ok,Option.isSome_none,Bool.false_eq_true,if_false,hb,Sem.run_pure]
theorem Zo6 {n:Int} (h0:0≤n) (h1:n≤9223372036854775807):IntKind.i64.wrap n=n:=by
  unfold IntKind.wrap
  have hb:(2:Int) ^ IntKind.i64.bits=18446744073709551616:=by decide
  have hb':(2:Int) ^ (IntKind.i64.bits - 1)=9223372036854775808:=by decide
  simp only [hb,hb']
  have:n % 18446744073709551616=n:=Int.emod_eq_of_lt h0 (by omega)
  rw [this]
  have:¬ (n≥9223372036854775808):=by omega
  simp [this]
theorem Zkg {P:Program} {w:World} {t el:TypeId} {k k':IntKind} {l c:Int} {inf:TypeInfo} {z:Value}
    (hu:P.underlying t=some (.slice el)) (hinf:P.info? el=some inf) (hz:inf.zero=some z) (hlen:z.cells.size=inf.size)
    (h0:0≤l) (h1:l≤c) (h2:c*inf.bytes≤281474976710656) (h3:c≤281474976710656) :
    (Instr.makeSlice t (.int k l) (.int k' c)).run P w = .ok (.slice (some ⟨w.heap.size,0,none⟩) l.toNat c.toNat) { w with heap:=w.heap.push (.cells (X6 z.cells.toList c.toNat).toArray el)}:=by
  unfold Instr.makeSlice asInt asIntOf
  have wl:IntKind.i64.wrap l=l:=Zo6 h0 (by omega)
  have wc:IntKind.i64.wrap c=c:=Zo6 (by omega) (by omega)
  have hbig:(2:Int) ^ 48=281474976710656:=by decide
  simp only [Sem.run_bind,Zk P w t hu,Result.andThen_ok,Sem.run_pure,ZaF P w el hinf,wl,wc]
  have hc:¬ ((decide (c<0)||decide ((inf.bytes:Int)*c>2 ^ 48)||decide (l<0)||decide (l>c))=true):=by
    have e1:¬ c<0:=by omega
    have e2:(inf.bytes:Int)*c≤281474976710656:=by rw [Int.mul_comm];exact h2
    have e3:¬ l<0:=by omega
    have e4:¬ l>c:=by omega
    simp [e1,e2,e3,e4]
  rw [if_neg hc]
  simp only [Sem.run_bind,run_askRoom,Result.andThen_ok,Xm P w el hinf]
  by_cases hn:c.toNat*inf.size=0
  ·rw [if_pos hn]
   have hz0:X6 z.cells.toList c.toNat=[]:=List.eq_nil_of_length_eq_zero (by rw [Zeu];simpa [hlen] using hn)
   simp only [Sem.run_bind,Sem.run_pure,Result.andThen_ok,ZbU]
   have hr:Array.range 0 = #[]:=Array.eq_empty_of_size_eq_zero (by simp)
   rw [hz0]
   simp [hn,hr]
  ·rw [if_neg hn]
   simp only [Sem.run_bind,XO P w el hinf hz,Sem.run_pure,Result.andThen_ok,ZbU]
   have:=ZfU z.cells c.toNat (c.toNat*inf.size) (by rw [hlen])
   congr 3
   rw [← this]
theorem Zjl {ZR cap bytes:Nat} (h:cap<ZR) (hb:ZR*bytes≤140737488355328):Builtin.nextslicecap ZR cap*bytes≤281474976710656:=by
  unfold Builtin.nextslicecap
  split
  ·omega
  ·split
   ·have:2*cap*bytes≤2*(ZR*bytes):=by rw [Nat.mul_assoc];exact Nat.mul_le_mul_left 2 (Nat.mul_le_mul_right _ (by omega))
    omega
   ·have key:∀ (r c:Nat),c≤2*ZR→256≤c→Builtin.growBy ZR r c≤2*ZR:=by
      intro r
      induction r with
      | zero=>intro c hc _;unfold Builtin.growBy;omega
      | succ r ih =>
        intro c hc h256
        unfold Builtin.growBy
        split
        ·omega
        ·exact ih _ (by omega) (by omega)
    have:=key 4 cap (by omega) (by omega)
    have:Builtin.growBy ZR 4 cap*bytes≤2*(ZR*bytes):=by
      rw [← Nat.mul_assoc];exact Nat.mul_le_mul_right _ this
    omega
theorem ZqU {P:Program} {w:World} {x:Sl} {size:Nat} {K:List Value→Prop} (h:rdS x size w.heap K) :
    ∃ l,(Builtin.firstCells size x.len (.slice x.ptr x.len x.cap)).run P w = .ok l.toArray w∧K l:=by
  rcases h with ⟨hp,hk⟩ | ⟨b,o,l,hp,hl,hh,hk⟩
  ·refine ⟨[],?_,hk⟩
   rw [hp]
   cases x.ptr<;>simp [Builtin.firstCells,loadCells,loadCellsFrom]
  ·refine ⟨l,?_,hk⟩
   rw [hp]
   simp only [Builtin.firstCells]
   rw [← hl]
   exact ZbX P w b o l hh
theorem Zhc (z:Array Value) (n:Nat):(Builtin.zeroCells z n).toList=X6 z.toList n:=by
  unfold Builtin.zeroCells
  exact ZfU z n _ rfl
theorem Zjd {P:Program} {w:World} {t el:TypeId} {ts:Array TypeId} {rt:TypeId} {s:Sl} {x:Value} {n:Nat} {new:List Value} {inf:TypeInfo} {z:Value} {K:Sl→Zd→Prop}
    (ht:ts[0]?=some t) (ht1:∀ u,ts[1]?=some u→∃ d,P.underlying u=some d∧∀ k,d≠ .int k)
    (hu:P.underlying t=some (.slice el)) (hinf:P.info? el=some inf) (hz:inf.zero=some z)
    (hlen:(Builtin.lenOf x).run P w = .ok n w) (hnew:∀ w':World,w'.heap=w.heap→(Builtin.firstCells inf.size n x).run P w' = .ok new.toArray w')
    (hk:app el inf.size inf.bytes z.cells.toList s n new w.heap K) :
    ∃ s' w',(Builtin.append_ ts rt #[.slice s.ptr s.len s.cap,x]).run P w = .ok (.slice s'.ptr s'.len s'.cap) w'∧Same w w'∧K s' w'.heap:=by
  obtain ⟨hroom,hgrow⟩:=hk
  have h63:IntKind.i64.max=9223372036854775807:=by decide
  have h48:(2:Nat) ^ 48=281474976710656:=by decide
  have grows:∀ (hgt:s.cap<s.len+n) (W:World),W=w→∃ s' w',
      (do let newCap ← choose (Question.appendCap (s.len+n) s.cap el)
          let __do_lift ← typeInfo el
          askRoom (newCap*__do_lift.bytes)
          let old ← Builtin.firstCells inf.size s.len (Value.slice s.ptr s.len s.cap)
          let new ← Builtin.firstCells inf.size n x
          let __do_lift ← zeroValue el
          let __do_lift ← newRow el (old++new++Builtin.zeroCells __do_lift.cells (newCap - (s.len+n)))
          pure (Value.slice (some __do_lift) (s.len+n) newCap):Sem Value).run P W = .ok (.slice s'.ptr s'.len s'.cap) w'∧Same w w'∧K s' w'.heap:=by
    rintro hgt W rfl
    obtain ⟨hb,hle,hrd⟩:=hgrow hgt
    have hq:(Question.appendCap (s.len+n) s.cap el).forced=false:=rfl
    simp only [Sem.run_bind,run_choose,hq,Bool.false_eq_true,if_false,Result.andThen_ok]
    generalize hcap:(Question.appendCap (s.len+n) s.cap el).cut (W.tape W.drawn (Question.appendCap (s.len+n) s.cap el))=newCap
    have hc1:s.len+n≤newCap∧newCap<9223372036854775808:=by
      subst hcap
      simp only [Question.cut]
      have:(2:Nat) ^ 63=9223372036854775808:=by decide
      rw [this]
      have:=Nat.mod_lt (W.tape W.drawn (Question.appendCap (s.len+n) s.cap el)) (show 9223372036854775808 - (s.len+n)>0 by omega)
      omega
    obtain ⟨old,hold,hk⟩:=ZqU (P:=P) (w:={ W with drawn:=W.drawn+1 }) hrd
    simp only [ZaF P _ el hinf,Result.andThen_ok,run_askRoom,hold,hnew { W with drawn:=W.drawn+1 } rfl,XO P _ el hinf hz,ZbU,Sem.run_pure]
    refine ⟨⟨some ⟨W.heap.size,0,none⟩,s.len+n,newCap⟩,_,rfl,⟨rfl,rfl,rfl⟩,?_⟩
    have:=hk newCap hc1.1 hc1.2
    rw [← Zhc] at this
    have e:(old++new++(Builtin.zeroCells z.cells (newCap - (s.len+n))).toList).toArray=old.toArray++new.toArray++Builtin.zeroCells z.cells (newCap - (s.len+n)):=by
      apply Array.ext'
      simp
    rw [e] at this
    exact this
  unfold Builtin.append_
  simp only [ht,List.getElem?_toArray,List.getElem?_cons_zero,List.getElem?_cons_succ,Sem.run_bind,Zk P w t hu,Result.andThen_ok,Xm P w el hinf]
  have rest:∀ (q:Prop),¬ q→∃ s' w',(if s.len+n≤s.cap then (do
          let new ← Builtin.firstCells inf.size n x
          match s.ptr with
            | some a=>do
              storeCells (a.add (s.len*inf.size)) new.toList
              pure (Value.slice s.ptr (s.len+n) s.cap)
            | _=>pure (Value.slice s.ptr (s.len+n) s.cap):Sem Value) else stuck "").run P w = .ok (.slice s'.ptr s'.len s'.cap) w'∧Same w w'∧K s' w'.heap∨s.cap<s.len+n:=by
    intro _ _
    rcases Nat.lt_or_ge s.cap (s.len+n) with hgt | hle
    ·exact ⟨⟨none,0,0⟩,w,.inr hgt⟩
    ·rw [if_pos hle]
     simp only [Sem.run_bind,hnew w rfl,Result.andThen_ok]
     rcases hroom hle with ⟨hp,hk⟩ | ⟨b,o,hp,hf,ha,hk⟩
     ·refine ⟨⟨s.ptr,s.len+n,s.cap⟩,w,.inl ⟨?_,Same.refl w,hk⟩⟩
      rw [hp]
      cases s.ptr<;>simp [storeCells]
     ·rw [hp]
      refine ⟨⟨some ⟨b,o,none⟩,s.len+n,s.cap⟩,{ w with heap:=Zd.puts w.heap b (o+s.len*inf.size) new },.inl ⟨?_,⟨rfl,rfl,rfl⟩,by rw [hp] at hk;exact hk⟩⟩
      simp only [ZiG,Sem.run_bind]
      have:=ZcM P b (o+s.len*inf.size) new 0 w (by simpa using hf) ha
      simp only [Nat.add_zero] at this
      rw [this]
      rfl
  obtain ⟨s₁,w₁,hrest⟩:=rest False id
  cases h1:ts[1]? with
  | none =>
    simp only [Sem.run_bind,Sem.run_pure,Result.andThen_ok,Bool.false_eq_true,if_false,hlen,Bool.not_false,if_true,false_or]
    rcases Nat.lt_or_ge s.cap (s.len+n) with hgt | hle
    ·rw [if_neg (by omega)]
     obtain ⟨hb,hle,_⟩:=hgrow hgt
     simp only [Sem.run_bind,ZaF P w el hinf,Result.andThen_ok]
     rw [if_neg (by rw [h63];omega)]
     simp only [Sem.run_bind,ZaF P w el hinf,Result.andThen_ok]
     rw [if_neg (by rw [h48];have:=Zjl hgt hb;omega)]
     exact grows hgt w rfl
    ·rw [if_pos hle] at hrest ⊢
     exact ⟨s₁,w₁,hrest.resolve_right (by omega)⟩
  | some u =>
    obtain ⟨d,hd,hne⟩:=ht1 u h1
    simp only [Sem.run_bind,Sem.run_pure,Zk P w u hd,Result.andThen_ok,Bool.false_eq_true,if_false,hlen,Bool.not_false,if_true,false_or]
    rcases Nat.lt_or_ge s.cap (s.len+n) with hgt | hle
    ·rw [if_neg (by omega)]
     obtain ⟨hb,hle,_⟩:=hgrow hgt
     simp only [Sem.run_bind,ZaF P w el hinf,Result.andThen_ok]
     rw [if_neg (by rw [h63];omega)]
     simp only [Sem.run_bind,ZaF P w el hinf,Result.andThen_ok]
     rw [if_neg (by rw [h48];have:=Zjl hgt hb;omega)]
     exact grows hgt w rfl
    ·rw [if_pos hle] at hrest ⊢
     exact ⟨s₁,w₁,hrest.resolve_right (by omega)⟩
theorem Zip (P:Program) (f:Value→ByteArray→Sem (ForInStep ByteArray)) (hf:∀ n s,f (.int .u8 n) s=pure (ForInStep.yield (s.push (UInt8.ofNat n.toNat)))) :
    ∀ (l:List UInt8) (acc:ByteArray) (w:World),(forIn (l.map fun b=>Value.int .u8 b.toNat) acc f).run P w = .ok (l.foldl ByteArray.push acc) w
  | [],acc,w=>by simp
  | x::l,acc,w=>by
    simp only [List.map_cons,List.forIn_cons,hf,Sem.run_bind,Sem.run_pure,Result.andThen_ok,List.foldl_cons]
    have:=Zip P f hf l (acc.push x) w
    simpa using this
theorem ZnA (l:List UInt8):∀ acc:ByteArray,l.foldl ByteArray.push acc=⟨acc.data++l.toArray⟩:=by
  induction l with
  | nil=>intro acc;simp
  | cons x l ih =>
    intro acc
    rw [List.foldl_cons,ih]
    simp [ByteArray.push]
theorem ZlX {P:Program} {w:World} {x:Sl} {K:ByteArray→Prop} (h:b2s x w.heap K) :
    ∃ s,(Conv.bytesToString (.slice x.ptr x.len x.cap)).run P w = .ok (.string s) w∧K s:=by
  rcases h with ⟨hp,hk⟩ | ⟨b,o,s,hp,hl,hh,hk⟩
  ·refine ⟨_,?_,hk⟩
   rw [hp]
   cases x.ptr<;>rfl
  ·refine ⟨s,?_,hk⟩
   rw [hp]
   unfold Conv.bytesToString
   have hlen:(Zcq s).length=x.len:=by rw [← hl];unfold Zcq;simp
   simp only [Sem.run_bind,← hlen,ZbX P w b o _ hh,Result.andThen_ok]
   simp only [List.forIn_toArray]
   unfold Zcq
   rw [Zip P _ (fun _ _=>rfl)]
   simp only [Result.andThen_ok,ZnA]
   simp
theorem Zs1 {P:Program} {w:World} {el:TypeId} {s:ByteArray} {K:Sl→Zd→Prop} (h:s2b el s w.heap K) :
    ∃ x w',(Conv.stringToBytes el s).run P w = .ok (.slice x.ptr x.len x.cap) w'∧Same w w'∧K x w'.heap:=by
  obtain ⟨hs,h⟩:=h
  unfold Conv.stringToBytes
  have hq:(Question.appendCap s.size 0 el).forced=false:=rfl
  simp only [Sem.run_bind,run_choose,hq,Bool.false_eq_true,if_false,Result.andThen_ok]
  generalize hcap:(Question.appendCap s.size 0 el).cut (w.tape w.drawn (Question.appendCap s.size 0 el))=cap
  have hc1:s.size≤cap∧cap<9223372036854775808:=by
    subst hcap
    simp only [Question.cut]
    have:(2:Nat) ^ 63=9223372036854775808:=by decide
    rw [this]
    have:=Nat.mod_lt (w.tape w.drawn (Question.appendCap s.size 0 el)) (show 9223372036854775808 - s.size>0 by omega)
    omega
  simp only [ZbU,Result.andThen_ok]
  have hsz:((s.data.map fun b=>Value.int .u8 b.toNat)++Array.replicate (cap - s.size) (Value.int .u8 0)).size=cap:=by
    simp
    have:s.data.size=s.size:=rfl
    omega
  unfold markStringish
  simp only [Sem.run_bind,run_shape,Result.andThen_ok,World.shape?,Array.getElem?_push_size,hsz,run_freeze,Sem.run_pure]
  refine ⟨⟨some ⟨w.heap.size,0,none⟩,s.size,cap⟩,_,rfl,?_,?_⟩
  ·unfold World.freeze
   simp only [Nat.one_ne_zero,if_false]
   exact ⟨rfl,rfl,rfl⟩
  ·have:=h cap hc1.1 hc1.2
   unfold World.freeze
   simp only [Nat.one_ne_zero,if_false]
   have e:(w.heap.push (Obj.cells ((s.data.map fun b=>Value.int .u8 b.toNat)++Array.replicate (cap - s.size) (Value.int .u8 0)) el)).modify w.heap.size
       (fun x=>match x with
         | .cells c elem (lo,hi)=> .cells c elem (if (lo ==hi)=true then (cap,cap+1) else (min lo cap,max hi (cap+1)))
         | o=>o)=w.heap.push (.cells (Zcq s++List.replicate (cap - s.size) (Value.int .u8 0)).toArray el (cap,cap+1)):=by
     have ea:((s.data.map fun b=>Value.int .u8 b.toNat)++Array.replicate (cap - s.size) (Value.int .u8 0))=(Zcq s++List.replicate (cap - s.size) (Value.int .u8 0)).toArray:=by
       apply Array.ext'
       simp [Zcq]
     rw [ea]
     apply Array.ext_getElem?
     intro i
     rw [Array.getElem?_modify]
     by_cases hi:w.heap.size=i
     ·subst hi
      simp
     ·rw [if_neg hi]
      simp [Array.getElem?_push,Ne.symm hi]
   exact e▸this
theorem Zc0 {b:Bool} {A:Prop} (h:bif b then A else False):b=true∧A:=by
  cases b with
  | true=>exact ⟨rfl,h⟩
  | false=>exact h.elim
theorem Ze9 {P:Program} {w:World} {s d:TypeId} {k k' j:IntKind} {n:Int} (hs:P.underlying s=some (.int j)) (hd:P.underlying d=some (.int k)) :
    (convert s d (.int k' n)).run P w = .ok (.int k (k.wrap n)) w:=by
  unfold convert
  simp only [Sem.run_bind,Zk P w s hs,Zk P w d hd,Result.andThen_ok]
  rfl
theorem Zgh {P:Program} {w:World} {s d:TypeId} {x:ByteArray} (hs:P.underlying s=some .string) (hd:P.underlying d=some .string) :
    (convert s d (.string x)).run P w = .ok (.string x) w:=by
  unfold convert
  simp only [Sem.run_bind,Zk P w s hs,Zk P w d hd,Result.andThen_ok]
  rfl
theorem ZhR {P:Program} {w:World} {s d e:TypeId} {x:ByteArray} (hs:P.underlying s=some .string) (hd:P.underlying d=some (.slice e)) (he:P.underlying e=some (.int .u8)) :
    (convert s d (.string x)).run P w=(Conv.stringToBytes e x).run P w:=by
  unfold convert
  simp only [Sem.run_bind,Zk P w s hs,Zk P w d hd,Zk P w e he,Result.andThen_ok]
theorem Zfa {P:Program} {w:World} {s d e:TypeId} {p:Option Addr} {l m:Nat} (hs:P.underlying s=some (.slice e)) (hd:P.underlying d=some .string) (he:P.underlying e=some (.int .u8)) :
    (convert s d (.slice p l m)).run P w=(Conv.bytesToString (.slice p l m)).run P w:=by
  unfold convert
  simp only [Sem.run_bind,Zk P w s hs,Zk P w d hd,Zk P w e he,Result.andThen_ok]
theorem Zhq {P:Program} {w:World} {s e e':TypeId} {b o l m:Nat} {c:Array Value} {t:TypeId} (hs:P.underlying s=some (.slice e')) (hd:P.underlying s=some (.slice e)) (he:P.underlying e=some (.int .u8))
    (hb:w.heap[b]?=some (.cells c t (0,0))):(convert s s (.slice (some ⟨b,o,none⟩) l m)).run P w = .ok (.slice (some ⟨b,o,none⟩) l m) { w with heap:=Zd.frz w.heap b }:=by
  unfold convert
  simp only [Sem.run_bind,Zk P w s hs,Zk P w e' (by rw [hs] at hd;cases hd;exact he),Result.andThen_ok,BEq.rfl]
  unfold markStringish
  have hshape:w.shape? b=some (t,c.size):=by unfold World.shape?;rw [hb]
  simp only [Sem.run_bind,run_shape,hshape,Result.andThen_ok,run_freeze,Sem.run_pure]
  have hfz:World.freeze w { block:=b,off:=c.size } 1={ w with heap:=Zd.frz w.heap b }:=by
    unfold World.freeze Zd.frz
    simp only [Nat.one_ne_zero,if_false]
    refine congrArg (fun h=>({ w with heap:=h }:World)) ?_
    apply Array.ext_getElem?
    intro i
    rw [Array.getElem?_modify,Array.getElem?_modify]
    by_cases hi:b=i
    ·subst hi
     rw [if_pos rfl,if_pos rfl,hb]
     simp
    ·rw [if_neg hi,if_neg hi]
  rw [hfz]
def Val (c:Cfg) (o:Oper) (a:Act) (w:World) (K:EV→Zd→Prop):Prop :=
  ∃ v w',(execOp a.eval o).run c.P w = .ok (.value v.v) w'∧Same w w'∧K v w'.heap
theorem Val.wp {c:Cfg} {o:Oper} {a:Act} {w:World} {K:EV→Zd→Prop} {next:Act→World→Prop} {Q:Exit→Act→World→Prop}
    (h:Val c o a w K) (hn:∀ v w',Same w w'→K v w'.heap→next (a.put o.dst v.v) w'):o.wpIn (fen c.rnd) 0 c.P a w next Q :=
  let ⟨v,_,hr,hs,hk⟩:=h
  ZrC hr (hn v _ hs hk)
theorem Val.of {c:Cfg} {o:Oper} {a:Act} {w w':World} {K:EV→Zd→Prop} {v:EV} {s:Sem Value} (he:execOp a.eval o=(do pure (.value (← s)))) (hr:s.run c.P w = .ok v.v w') (hs:Same w w') (hk:K v w'.heap) :
    Val c o a w K:=⟨v,w',by rw [he];exact Zpt hr,hs,hk⟩
def Zmr (c:Cfg) (o:Oper) (a:Act) (h:Zd) (K:EV→Zd→Prop):Prop :=
  ∃ v:EV,(∀ w:World,w.heap=h→(execOp a.eval o).run c.P w = .ok (.value v.v) w)∧K v h
def Zcr (c:Cfg) (o:Oper) (a:Act) (h:Zd) (K:EV→Zd→Prop):Prop :=
  ∃ v:EV,(∀ w:World,True→(execOp a.eval o).run c.P w = .ok (.value v.v) w)∧K v h
theorem Zcr.q {c:Cfg} {o:Oper} {a:Act} {h:Zd} {K:EV→Zd→Prop} (hp:Zcr c o a h K):Zmr c o a h K :=
  let ⟨v,hr,hk⟩:=hp
  ⟨v,fun w _=>hr w trivial,hk⟩
theorem Zcr.of {c:Cfg} {o:Oper} {a:Act} {h:Zd} {K:EV→Zd→Prop} {v:EV} {s:Sem Value} (he:execOp a.eval o=(do pure (.value (← s)))) (hr:∀ w:World,True→s.run c.P w = .ok v.v w) (hk:K v h) :
    Zcr c o a h K:=⟨v,fun w hw=>by rw [he];exact Zpt (hr w hw),hk⟩
theorem Zmr.val {c:Cfg} {o:Oper} {a:Act} {w:World} {K:EV→Zd→Prop} (h:Zmr c o a w.heap K):Val c o a w K :=
  let ⟨v,hr,hk⟩:=h
  ⟨v,w,hr w rfl,Same.refl w,hk⟩
theorem Zcr.val {c:Cfg} {o:Oper} {a:Act} {w:World} {K:EV→Zd→Prop} (h:Zcr c o a w.heap K):Val c o a w K:=h.q.val
theorem Zmr.of {c:Cfg} {o:Oper} {a:Act} {h:Zd} {K:EV→Zd→Prop} {v:EV} {s:Sem Value} (he:execOp a.eval o=(do pure (.value (← s)))) (hr:∀ w:World,w.heap=h→s.run c.P w = .ok v.v w) (hk:K v h) :
    Zmr c o a h K:=⟨v,fun w hw=>by rw [he];exact Zpt (hr w hw),hk⟩
section
variable {c:Cfg} {e:Env} {a:Act} {w:World} {h:Zd} {K:EV→Zd→Prop} {dst:Option Tmp} {type:TypeId} {pos:String} {after:Array Edge} {guard:Option (Nat × Bool)}
theorem Zj6 (hag:Agr c.n e a) {x:Operand} (hk:opP c (.move x) e h K):Zcr c ⟨dst,.move x,type,pos,after,guard⟩ a h K:=by
  simp only [opP] at hk
  split at hk
  ·rename_i v hv
   exact ⟨v,fun w hw=>by simp [execOp,hag.ev hv],hk⟩
  ·exact hk.elim
theorem ZgH (hag:Agr c.n e a) {x:Operand} (hk:opP c (.assign x) e h K):Zcr c ⟨dst,.assign x,type,pos,after,guard⟩ a h K:=by
  simp only [opP] at hk
  split at hk
  ·rename_i k n hv
   exact ⟨.val (.int k n),fun w hw=>by simp [execOp,hag.ev hv],hk⟩
  ·rename_i b hv
   exact ⟨.val (.bool b),fun w hw=>by simp [execOp,hag.ev hv],hk⟩
  ·rename_i v _ _ hv
   exact ⟨v,fun w hw=>by simp [execOp,hag.ev hv],hk⟩
  ·exact hk.elim
theorem Zj5 (hag:Agr c.n e a) {x y z:Operand} (hk:opP c (.pick x y z) e h K):Zcr c ⟨dst,.pick x y z,type,pos,after,guard⟩ a h K:=by
  simp only [opP] at hk
  split at hk
  ·rename_i u hx hy
   refine ⟨u,fun w hw=>?_,hk⟩
   simp only [execOp,hag.ev hx,hag.ev hy]
   rfl
  ·rename_i u hx hy
   refine ⟨u,fun w hw=>?_,hk⟩
   simp only [execOp,hag.ev hx,hag.ev hy]
   rfl
  ·rename_i b u v hx hu hv
   split at hk
   ·rename_i p q hp hq
    refine ⟨_,fun w hw=>?_,hk⟩
    simp only [execOp,hag.ev hx,hag.ev hu,hag.ev hv,hp,hq]
    cases b<;>rfl
   ·exact hk.elim
  ·exact hk.elim
theorem Zpc {t:TypeId} (hk:opP c (.alloc t) e w.heap K):Val c ⟨dst,.alloc t,type,pos,after,guard⟩ a w K:=by
  simp only [opP] at hk
  split at hk
  ·rename_i zs hz
   obtain ⟨i,v,hi,hv,rfl⟩:=ZbT hz
   exact .of (v:= .adr w.heap.size 0) rfl (Zpu c.P w t v hi hv) ⟨rfl,rfl,rfl⟩ hk
  ·exact hk.elim
theorem ZsW (hag:Agr c.n e a) {t:TypeId} {x:Operand} (hk:opP c (.box t x) e w.heap K):Val c ⟨dst,.box t x,type,pos,after,guard⟩ a w K:=by
  simp only [opP] at hk
  split at hk
  ·rename_i v hv
   refine .of (v:= .adr w.heap.size 0) rfl (Zs2 c.P w t _) ⟨rfl,rfl,rfl⟩ ?_
   rw [hag.ev hv]
   cases hd:ZpX (c.P.underlying t) with
   | true =>
     rw [hd] at hk
     obtain ⟨h1,hk⟩:=(show ZR _ _ from hk)
     have:v.v.cells=[v.v].toArray:=by
       revert h1
       cases v.v<;>intro h1<;>first | rfl | cases h1
     rw [this]
     exact hk
   | false =>
     rw [hd] at hk
     rw [ZkC]
     exact hk
  ·exact hk.elim
theorem Zia (ps:Array (Nat × Operand)) (a:Act) (f:Nat × Operand→Nat × Value) (hf:∀ x,f x=(x.1,a.eval x.2)):ps.map f=(ps.toList.map fun x=>(x.1,a.eval x.2)).toArray:=by
  apply Array.ext'
  simp [funext hf]
theorem ZqZ {o:Op} {F:Array (Nat × Value)→Sem Value} {ps:Array (Nat × Operand)} {f:Nat × Operand→Nat × Value} {v:EV} {w':World}
    (he:execOp a.eval ⟨dst,o,type,pos,after,guard⟩=(do pure (.value (← F (ps.map f))))) (hf:∀ x,f x=(x.1,a.eval x.2))
    (hr:(F (ps.toList.map fun x=>(x.1,a.eval x.2)).toArray).run c.P w = .ok v.v w') (hs:Same w w') (hk:K v w'.heap):Val c ⟨dst,o,type,pos,after,guard⟩ a w K:=by
  rw [Zia ps a f hf] at he
  exact .of he hr hs hk
theorem Zlc {o:Op} {F:Array (Nat × Value)→Sem Value} {ps:Array (Nat × Operand)} {f:Nat × Operand→Nat × Value} {v:EV}
    (he:execOp a.eval ⟨dst,o,type,pos,after,guard⟩=(do pure (.value (← F (ps.map f))))) (hf:∀ x,f x=(x.1,a.eval x.2))
    (hr:∀ w:World,True→(F (ps.toList.map fun x=>(x.1,a.eval x.2)).toArray).run c.P w = .ok v.v w) (hk:K v h):Zcr c ⟨dst,o,type,pos,after,guard⟩ a h K:=by
  rw [Zia ps a f hf] at he
  exact .of he hr hk
theorem ZhI (hag:Agr c.n e a) {t:TypeId} {ps:Array (Nat × Operand)} (hk:opP c (.build t ps) e h K):Zcr c ⟨dst,.build t ps,type,pos,after,guard⟩ a h K:=by
  simp only [opP] at hk
  split at hk
  ·rename_i fs zs hu hz
   split at hk
   ·rename_i l hl
    obtain ⟨hall,hk⟩:=Zc0 hk
    obtain ⟨hone,hk⟩:=Zjm hk
    refine Zlc (F:=Instr.build t) rfl (fun _=>rfl) (fun w hw=>?_) hk
    exact Zhr c.P w t hu hz hall (Zhg c.P fs.toList hag zs.length hl hone)
   ·exact hk.elim
  ·rename_i n el zs hu hz
   split at hk
   ·rename_i l hl
    obtain ⟨hsome,hk⟩:=Zc0 hk
    obtain ⟨j,hj⟩:=Option.isSome_iff_exists.1 hsome
    refine Zlc (F:=Instr.build t) rfl (fun _=>rfl) (fun w hw=>?_) hk
    exact ZhS c.P w t hu hz hj (Zfc (c.P.cellsOf el) hag zs.length hl)
   ·exact hk.elim
  ·exact hk.elim
theorem ZiN (hag:Agr c.n e a) {t:TypeId} {n:Nat} {ps:Array (Nat × Operand)} (hk:opP c (.buildSlice t n ps) e w.heap K):Val c ⟨dst,.buildSlice t n ps,type,pos,after,guard⟩ a w K:=by
  simp only [opP] at hk
  split at hk
  ·rename_i el hu
   split at hk
   ·rename_i zs l hz hl
    obtain ⟨h1,hk⟩:=Zc0 hk
    obtain ⟨h2,hk⟩:=Zc0 hk
    have hr:=ZiQ c.P w t hu hz (Nat.eq_of_beq_eq_true h2) (Nat.le_of_ble_eq_true h1) (Zfc (c.P.cellsOf el) hag _ hl)
    exact ZqZ (F:=Instr.buildSlice t n) (v:= .val (.slice (some ⟨w.heap.size,0,none⟩) n n)) rfl (fun _=>rfl) hr ⟨rfl,rfl,rfl⟩ hk
   ·exact hk.elim
  ·exact hk.elim
theorem Zj8 (hag:Agr c.n e a) {t:TypeId} {x:Operand} (hk:opP c (.load t x) e h K):Zmr c ⟨dst,.load t x,type,pos,after,guard⟩ a h K:=by
  simp only [opP] at hk
  split at hk
  ·rename_i v hv
   obtain ⟨b,o,hp,hk⟩:=ZfJ hk
   obtain ⟨u,hr,hk⟩:=ZmM hk
   refine Zmr.of (s:=Instr.loadAt t (a.eval x)) rfl (fun w hw=>?_) hk
   rw [hag.ev hv,hp]
   exact Zjc (hr w hw)
  ·exact hk.elim
theorem Ze3 (hag:Agr c.n e a) {x:Operand} (hk:opP c (.nilCheck x) e h K):Zcr c ⟨dst,.nilCheck x,type,pos,after,guard⟩ a h K:=by
  simp only [opP] at hk
  split at hk
  ·rename_i v hv
   obtain ⟨b,o,hp,hk⟩:=ZfJ hk
   refine ⟨.adr b o,fun w hw=>?_,hk⟩
   simp only [execOp,hag.ev hv,hp]
   rfl
  ·exact hk.elim
theorem ZeQ {op:BinOp} {t:TypeId} {x y:Operand} {u v:Value} (h:(∀ cs,u≠ .agg cs)∧u≠ .nilIface):(eqGuard op t x y u v).run c.P w = .ok () w:=by
  unfold eqGuard
  cases op<;>first
    | rfl
    | (cases u<;>first | rfl | exact absurd rfl (h.1 _) | exact absurd rfl h.2)
theorem Zqh {op:BinOp} {x y:EV} {K:EV→Prop} (h:ZrT op x y K):(∀ cs,x.v≠ .agg cs)∧x.v≠ .nilIface:=by
  unfold ZrT at h
  split at h
  ·exact ⟨fun _ h=>(by cases h),fun h=>(by cases h)⟩
  ·exact ⟨fun _ h=>(by cases h),fun h=>(by cases h)⟩
  ·exact h.elim
theorem Zrd {d:Option TypeDesc} {neg:Bool} {x y:EV} {K:EV→Prop} (h:eqP d neg x y K):(∀ cs,x.v≠ .agg cs)∧x.v≠ .nilIface:=by
  unfold eqP at h
  split at h
  ·exact ⟨fun _ h=>(by cases h),fun h=>(by cases h)⟩
  ·exact ⟨fun _ h=>(by cases h),fun h=>(by cases h)⟩
  ·exact ⟨fun _ h=>(by cases h),fun h=>(by cases h)⟩
  ·exact ⟨fun _ h=>(by cases h),fun h=>(by cases h)⟩
  ·split at h
   ·rename_i hx _
    rw [hx]
    exact ⟨fun _ h=>(by cases h),fun h=>(by cases h)⟩
   ·exact h.elim
  ·exact h.elim
theorem ZeO {P:Program} {t:TypeId} {x y:Value} {b:Bool} {d:Nat} {w:World} (h:ZeP (P.underlying t) x y=some b):Za0 (P.underlying t)=false∧(P.underlying t).isSome=true∧(Op.equalIn (d+1) t x y).run P w = .ok b w:=by
  unfold ZeP at h
  split at h
  ·rename_i k' k a k'' b' hu
   split at h
   ·rename_i hk
    subst hk
    simp only [Option.some.injEq] at h
    subst h
    rw [hu]
    exact ⟨rfl,rfl,run_equalIn_int w d t _ _ _ _ hu⟩
   ·cases h
  ·rename_i a b' hu
   simp only [Option.some.injEq] at h
   subst h
   rw [hu]
   exact ⟨rfl,rfl,run_equalIn_string w d t _ _ hu⟩
  ·rename_i a b' hu
   simp only [Option.some.injEq] at h
   subst h
   rw [hu]
   exact ⟨rfl,rfl,run_equalIn_bool' w d t _ _ hu⟩
  ·cases h
theorem Zbv {P:Program} {w:World} {t:TypeId} {xs:Array Value} {off:Nat} {x:Value} (h1:Za0 (P.underlying t)=false) (h2:(P.underlying t).isSome=true) (hx:xs[off]?=some x):(part t xs off).run P w = .ok x w:=by
  obtain ⟨d,hu⟩:=Option.isSome_iff_exists.1 h2
  rw [hu] at h1
  unfold part
  simp only [Sem.run_bind,ZcX P w t hu,h1,Result.andThen_ok,Bool.false_eq_true,if_false,hx]
  rfl
theorem ZeR {P:Program} {xs ys:Array Value} {d:Nat} {w:World}:∀ {fs:List Field} {b:Bool},ZdP P fs xs.toList ys.toList=some b→(Op.eqFields (d+1) xs ys fs).run P w = .ok b w
  | [],b,h=>by
    simp only [ZdP,Option.some.injEq] at h
    subst h
    rfl
  | f::fs,b,h=>by
    simp only [ZdP] at h
    cases hn:f.name == "_" with
    | true=>rw [hn] at h;cases h
    | false =>
      rw [hn] at h
      simp only [cond_false] at h
      split at h
      ·rename_i x y hx hy
       split at h
       ·rename_i a r ha hr
        simp only [Option.some.injEq] at h
        subst h
        have hne:f.name≠ "_" :=by
          intro he
          rw [he] at hn
          simp at hn
        have hx':xs[f.offset]?=some x:=by simpa using hx
        have hy':ys[f.offset]?=some y:=by simpa using hy
        obtain ⟨h1,h2,h3⟩:=ZeO (d:=d) (w:=w) ha
        simp only [Op.eqFields,hne,ne_eq,not_false_eq_true,if_true,Sem.run_bind,Zbv h1 h2 hx',Zbv h1 h2 hy',h3,Result.andThen_ok]
        cases a with
        | true=>simpa using ZeR hr
        | false=>simp
       ·cases h
      ·cases h
theorem Ze7 {P:Program} {w:World} {t:TypeId} {gs:Array Field} {xs:Array Value} {off:Nat} (hu:P.underlying t=some (.struct gs)) (hn:off+P.cellsOf t≤xs.size) :
    (part t xs off).run P w = .ok (.agg ⟨(xs.toList.drop off).take (P.cellsOf t)⟩) w:=by
  obtain ⟨i,hi⟩:=Zad P hu
  unfold part
  simp only [Sem.run_bind,ZcX P w t hu,Result.andThen_ok,Za0,if_true,Xm P w t hi,Sem.run_pure]
  rw [Za3 P hi]
  congr 2
  apply Array.ext'
  simp [List.take_drop,Nat.add_comm]
theorem ZhQ {P:Program} {w:World} {t el:TypeId} {n:Nat} {gs:Array Field} {cs:Array Value} {k:IntKind} {i:Int} (hu:P.underlying t=some (.array n el)) (he:P.underlying el=some (.struct gs)) (h0:0≤i) (h1:i<n) (hl:cs.toList.length=n*P.cellsOf el) :
    (Instr.index t (.agg cs) (.int k i)).run P w = .ok (.agg ⟨(cs.toList.drop (i.toNat*P.cellsOf el)).take (P.cellsOf el)⟩) w:=by
  obtain ⟨inf,hi⟩:=Zad P he
  have hs:P.cellsOf el=inf.size:=by unfold Program.cellsOf;rw [hi];rfl
  have hb:i.toNat*P.cellsOf el+P.cellsOf el≤cs.size:=by
    have h2:i.toNat+1≤n:=by omega
    have:=Nat.mul_le_mul_right (P.cellsOf el) h2
    rw [Nat.add_mul,Nat.one_mul,← hl] at this
    simpa using this
  have:=Ze7 (w:=w) (xs:=cs) he hb
  unfold Instr.index asIntOf
  simp only [Sem.run_bind,Sem.run_pure,Result.andThen_ok,Zk P w t hu,if_pos (And.intro h0 h1),Xm P w el hi,← hs]
  exact this
theorem Zee {P:Program} {xs ys:Array Value} {d:Nat} {w:World}:∀ {fs:List Field} {b:Bool},Zdy P fs xs.toList ys.toList=some b→(Op.eqFields (d+1+1) xs ys fs).run P w = .ok b w
  | [],b,h=>by
    simp only [Zdy,Option.some.injEq] at h
    subst h
    rfl
  | f::fs,b,h=>by
    simp only [Zdy] at h
    cases hn:f.name == "_" with
    | true=>rw [hn] at h;cases h
    | false =>
      rw [hn] at h
      simp only [cond_false] at h
      have hne:f.name≠ "_" :=by
        intro he
        rw [he] at hn
        simp at hn
      split at h
      ·rename_i gs hu
       cases hst:P.stoodInHeld f.type with
       | true=>rw [hst] at h;cases h
       | false =>
         rw [hst] at h
         simp only [cond_false] at h
         cases hle:(Nat.ble (f.offset+P.cellsOf f.type) xs.toList.length&&Nat.ble (f.offset+P.cellsOf f.type) ys.toList.length) with
         | false=>rw [hle] at h;cases h
         | true =>
           rw [hle] at h
           simp only [cond_true] at h
           simp only [Bool.and_eq_true,Nat.ble_eq,Array.length_toList] at hle
           split at h
           ·rename_i a r ha hr
            simp only [Option.some.injEq] at h
            subst h
            have hf:P.fieldsOf f.type=gs:=by unfold Program.fieldsOf;rw [hu]
            have h3:(Op.equalIn (d+1+1) f.type (.agg ⟨(xs.toList.drop f.offset).take (P.cellsOf f.type)⟩) (.agg ⟨(ys.toList.drop f.offset).take (P.cellsOf f.type)⟩)).run P w = .ok a w:=by
              rw [run_equalIn_agg w _ f.type _ _ (by rw [hf];exact hu) hst,hf]
              exact ZeR ha
            simp only [Op.eqFields,hne,ne_eq,not_false_eq_true,if_true,Sem.run_bind,Ze7 hu hle.1,Ze7 hu hle.2,h3,Result.andThen_ok]
            cases a with
            | true=>simpa using Zee hr
            | false=>simp
           ·cases h
      ·rename_i u hns
       split at h
       ·rename_i x y hx hy
        split at h
        ·rename_i a r ha hr
         simp only [Option.some.injEq] at h
         subst h
         have hx':xs[f.offset]?=some x:=by simpa using hx
         have hy':ys[f.offset]?=some y:=by simpa using hy
         obtain ⟨h1,h2,h3⟩:=ZeO (d:=d+1) (w:=w) ha
         simp only [Op.eqFields,hne,ne_eq,not_false_eq_true,if_true,Sem.run_bind,Zbv h1 h2 hx',Zbv h1 h2 hy',h3,Result.andThen_ok]
         cases a with
         | true=>simpa using Zee hr
         | false=>simp
        ·cases h
       ·cases h
theorem Zqa {P:Program} {t:TypeId} {fs:Array Field} {x y:EV} {K:Bool→Prop} (hu:P.underlying t=some (.struct fs)) (hk:eqS P t fs x y K) :
    ∃ (xs ys:Array Value) (b:Bool),x.v = .agg xs∧y.v = .agg ys∧P.eqGuardType P.depth t=false∧(∀ w,(Op.equalIn 10000 t (.agg xs) (.agg ys)).run P w = .ok b w)∧K b:=by
  unfold eqS at hk
  split at hk
  ·rename_i xs ys
   cases hc:(P.stoodInHeld t||P.eqGuardType P.depth t) with
   | true=>rw [hc] at hk;exact hk.elim
   | false =>
     rw [hc] at hk
     simp only [cond_false] at hk
     rw [Bool.or_eq_false_iff] at hc
     split at hk
     ·rename_i b hb
      have hf:P.fieldsOf t=fs:=by unfold Program.fieldsOf;rw [hu]
      refine ⟨xs,ys,b,rfl,rfl,hc.2,fun w=>?_,hk⟩
      rw [show (10000:Nat)=9997+1+1+1 from rfl,run_equalIn_agg w _ t xs ys (by rw [hf];exact hu) hc.1,hf]
      exact Zee hb
     ·exact hk.elim
  ·exact hk.elim
theorem Zit {op:BinOp} {t:TypeId} {x:Operand} {u:Value} {w:World} (h:∀ cs,u≠ .agg cs):(eqGuard op t x (.const .nilIface) u .nilIface).run c.P w = .ok () w:=by
  unfold eqGuard
  cases op<;>first
    | rfl
    | (cases u<;>first | rfl | exact absurd rfl (h _) | (simp [Sem.run_pure]))
theorem ZhJ (hag:Agr c.n e a) {op:BinOp} {t t':TypeId} {x y:Operand} (hk:opP c (.binOp op t x y t') e h K):Zcr c ⟨dst,.binOp op t x y t',type,pos,after,guard⟩ a h K:=by
  have bin:∀ {u v:EV},e.ev x=some u→e.ev y=some v→ZrT op u v (fun v=>K v h)→Zcr c ⟨dst,.binOp op t x y t',type,pos,after,guard⟩ a h K:=by
    intro u v hu hv hb
    obtain ⟨r,hr,hk⟩:=Zrk (P:=c.P) (t:=t) hb
    refine Zcr.of (s:=do eqGuard op t x y (a.eval x) (a.eval y);binOp op t (a.eval x) (a.eval y)) rfl (fun w hw=>?_) hk
    rw [hag.ev hu,hag.ev hv]
    simp only [Sem.run_bind,ZeQ (Zqh hb),Result.andThen_ok,hr w]
  have eqq:∀ {u v:EV} {neg:Bool},op=(bif neg then .neq else .eql)→e.ev x=some u→e.ev y=some v→eqP (c.P.underlying t) neg u v (fun v=>K v h)→Zcr c ⟨dst,.binOp op t x y t',type,pos,after,guard⟩ a h K:=by
    rintro u v neg rfl hu hv hb
    obtain ⟨r,hr,hk⟩:=Ztu (P:=c.P) hb
    refine Zcr.of (s:=do eqGuard (bif neg then .neq else .eql) t x y (a.eval x) (a.eval y);binOp (bif neg then .neq else .eql) t (a.eval x) (a.eval y)) rfl (fun w hw=>?_) hk
    rw [hag.ev hu,hag.ev hv]
    simp only [Sem.run_bind,ZeQ (Zrd hb),Result.andThen_ok,hr w]
  have eqnil:∀ {u:EV} {neg:Bool} {ms:Array (String × TypeId)} {t'':TypeId},op=(bif neg then .neq else .eql)→c.P.underlying t=some (.interface ms)→e.ev x=some u→ZpY u.v (fun b=>K (.val (.bool (bif neg then !b else b))) h)→Zcr c ⟨dst,.binOp op t x (.const .nilIface) t'',type,pos,after,guard⟩ a h K:=by
    rintro u neg ms t'' rfl hud hu hb
    rcases hb with ⟨hv,hb⟩ | ⟨t2,u2,hv,hb⟩
    ·refine Zcr.of (s:=do eqGuard (bif neg then .neq else .eql) t x (.const .nilIface) (a.eval x) .nilIface;binOp (bif neg then .neq else .eql) t (a.eval x) .nilIface) rfl (fun w hw=>?_) hb
     rw [hag.ev hu,hv]
     have:=Zkz w hud
     cases neg<;>simp only [cond_true,cond_false,EV.v,binOp,Sem.run_bind,Zit (u:=Value.nilIface) (fun _ h=>(by cases h)),this,Result.andThen_ok]<;>rfl
    ·refine Zcr.of (s:=do eqGuard (bif neg then .neq else .eql) t x (.const .nilIface) (a.eval x) .nilIface;binOp (bif neg then .neq else .eql) t (a.eval x) .nilIface) rfl (fun w hw=>?_) hb
     rw [hag.ev hu,hv]
     have:=Zis w hud t2 u2
     cases neg<;>simp only [cond_true,cond_false,EV.v,binOp,Sem.run_bind,Zit (u:=Value.iface t2 u2) (fun _ h=>(by cases h)),this,Result.andThen_ok]<;>rfl
  have eqnilF:∀ {u:EV} {neg:Bool} {ps rs:Array TypeId} {vr:Bool} {t'':TypeId},op=(bif neg then .neq else .eql)→c.P.underlying t=some (.func ps rs vr)→e.ev x=some u→ZpZ u.v (fun b=>K (.val (.bool (bif neg then !b else b))) h)→Zcr c ⟨dst,.binOp op t x (.const .nilFunc) t'',type,pos,after,guard⟩ a h K:=by
    rintro u neg ps rs vr t'' rfl hud hu hb
    rcases hb with ⟨hv,hb⟩ | ⟨f2,a2,b2,hv,hb⟩
    ·refine Zcr.of (s:=do eqGuard (bif neg then .neq else .eql) t x (.const .nilFunc) (a.eval x) .nilFunc;binOp (bif neg then .neq else .eql) t (a.eval x) .nilFunc) rfl (fun w hw=>?_) hb
     rw [hag.ev hu,hv]
     have:=ZiZ w hud
     cases neg<;>simp only [cond_true,cond_false,EV.v,binOp,Sem.run_bind,ZeQ (u:=Value.nilFunc) ⟨fun _ h=>(by cases h),fun h=>(by cases h)⟩,this,Result.andThen_ok]<;>rfl
    ·refine Zcr.of (s:=do eqGuard (bif neg then .neq else .eql) t x (.const .nilFunc) (a.eval x) .nilFunc;binOp (bif neg then .neq else .eql) t (a.eval x) .nilFunc) rfl (fun w hw=>?_) hb
     rw [hag.ev hu,hv]
     have:=Zi0 w hud f2 a2 b2
     cases neg<;>simp only [cond_true,cond_false,EV.v,binOp,Sem.run_bind,ZeQ (u:=Value.func f2 a2 b2) ⟨fun _ h=>(by cases h),fun h=>(by cases h)⟩,this,Result.andThen_ok]<;>rfl
  simp only [opP] at hk
  split at hk
  ·rename_i u v hu hv
   split at hk
   ·exact bin hu hv hk
   ·exact bin hu hv hk
   ·exact bin hu hv hk
   ·exact bin hu hv hk
   ·rename_i fs hud
    obtain ⟨xs,ys,b,hx,hy,hg,hr,hk⟩:=Zqa hud hk
    refine Zcr.of (v:= .val (.bool b)) (s:=do eqGuard .eql t x y (a.eval x) (a.eval y);binOp .eql t (a.eval x) (a.eval y)) rfl (fun w hw=>?_) hk
    rw [hag.ev hu,hag.ev hv,hx,hy]
    simp only [Sem.run_bind,run_eqGuard_agg w .eql t x y xs ys hg,Result.andThen_ok,run_eql_struct,hr w]
    rfl
   ·rename_i fs hud
    obtain ⟨xs,ys,b,hx,hy,hg,hr,hk⟩:=Zqa hud hk
    refine Zcr.of (v:= .val (.bool (!b))) (s:=do eqGuard .neq t x y (a.eval x) (a.eval y);binOp .neq t (a.eval x) (a.eval y)) rfl (fun w hw=>?_) hk
    rw [hag.ev hu,hag.ev hv,hx,hy]
    simp only [Sem.run_bind,run_eqGuard_agg w .neq t x y xs ys hg,Result.andThen_ok,run_neq_struct,hr w]
    rfl
   ·rename_i ms hud
    split at hk
    ·exact eqnil (neg:=false) rfl hud hu hk
    ·exact hk.elim
   ·rename_i ms hud
    split at hk
    ·exact eqnil (neg:=true) rfl hud hu hk
    ·exact hk.elim
   ·rename_i ps rs vr hud
    split at hk
    ·exact eqnilF (neg:=false) rfl hud hu hk
    ·exact hk.elim
   ·rename_i ps rs vr hud
    split at hk
    ·exact eqnilF (neg:=true) rfl hud hu hk
    ·exact hk.elim
   ·exact eqq (neg:=false) rfl hu hv hk
   ·exact eqq (neg:=true) rfl hu hv hk
   ·exact bin hu hv hk
  ·exact hk.elim
theorem Zj4 (hag:Agr c.n e a) {op:UnOp} {t:TypeId} {x:Operand} (hk:opP c (.unOp op t x) e h K):Zcr c ⟨dst,.unOp op t x,type,pos,after,guard⟩ a h K:=by
  simp only [opP] at hk
  split at hk
  ·rename_i b hv
   refine ⟨_,fun w hw=>?_,hk⟩
   simp only [execOp,hag.ev hv,EV.v]
   rfl
  ·rename_i b hv
   refine ⟨_,fun w hw=>?_,hk⟩
   simp only [execOp,hag.ev hv,EV.v]
   rfl
  ·rename_i k n hv
   refine ⟨_,fun w hw=>?_,hk⟩
   simp only [execOp,hag.ev hv,EV.v]
   rfl
  ·exact hk.elim
theorem Ze5 (hag:Agr c.n e a) {s d:TypeId} {x:Operand} {j k:IntKind} (hs:c.P.underlying s=some (.int j)) (hd:c.P.underlying d=some (.int k)) (hk:opP c (.convert s d x) e h K) :
    Zcr c ⟨dst,.convert s d x,type,pos,after,guard⟩ a h K:=by
  simp only [opP,hs,hd] at hk
  split at hk
  ·rename_i k2 k' n h1 h2 hv
   cases h2
   refine Zcr.of (s:=convert s d (a.eval x)) rfl (fun w hw=>?_) hk
   rw [hag.ev hv]
   exact Ze9 hs hd
  all_goals first
    | exact hk.elim
    | (rename_i h1 _ _;cases h1)
    | (rename_i h1 _;cases h1)
    | (rename_i h1;cases h1)
theorem ZlQ (hag:Agr c.n e a) {s d:TypeId} {x:Operand} (hk:opP c (.convert s d x) e w.heap K):Val c ⟨dst,.convert s d x,type,pos,after,guard⟩ a w K:=by
  simp only [opP] at hk
  split at hk
  ·rename_i j k k' n hs hd hv
   refine .of (s:=convert s d (a.eval x)) rfl ?_ (Same.refl w) hk
   rw [hag.ev hv]
   exact Ze9 hs hd
  ·rename_i y hs hd hv
   refine .of (s:=convert s d (a.eval x)) rfl ?_ (Same.refl w) hk
   rw [hag.ev hv]
   exact Zgh hs hd
  ·rename_i el y hs hd hv
   split at hk
   ·rename_i he
    obtain ⟨r,w',hr,hs',hk⟩:=Zs1 (P:=c.P) hk
    refine .of (v:= .val (.slice r.ptr r.len r.cap)) (s:=convert s d (a.eval x)) rfl ?_ hs' hk
    rw [hag.ev hv]
    exact (ZhR hs hd he).trans hr
   ·exact hk.elim
  ·rename_i el p l m hs hd hv
   split at hk
   ·rename_i he
    obtain ⟨r,hr,hk⟩:=ZlX (P:=c.P) hk
    refine .of (v:= .val (.string r)) (s:=convert s d (a.eval x)) rfl ?_ (Same.refl w) hk
    rw [hag.ev hv]
    exact (Zfa hs hd he).trans hr
   ·exact hk.elim
  ·rename_i e' el p l m hs hd hv
   split at hk
   ·rename_i he
    obtain ⟨hsd,hk1⟩:=Zc0 hk
    clear hk
    have hsd':=Nat.eq_of_beq_eq_true hsd
    subst hsd'
    obtain ⟨b,o,c',t,rfl,hb,hk⟩:=hk1
    refine .of (v:= .val (.slice (some ⟨b,o,none⟩) l m)) (w':={ w with heap:=Zd.frz w.heap b }) (s:=convert s s (a.eval x)) rfl ?_ ⟨rfl,rfl,rfl⟩ hk
    rw [hag.ev hv]
    exact Zhq hs hd he hb
   ·exact hk.elim
  ·exact hk.elim
theorem Zj7 (hag:Agr c.n e a) {t:TypeId} {x y:Operand} (hk:opP c (.makeSlice t x y) e w.heap K):Val c ⟨dst,.makeSlice t x y,type,pos,after,guard⟩ a w K:=by
  simp only [opP] at hk
  split at hk
  ·rename_i el k l k' m hu hx hy
   split at hk
   ·rename_i size bytes zs hs hz
    obtain ⟨hlen,hk1⟩:=Zc0 hk
    clear hk
    obtain ⟨h0,h1,h2,h3,hk2⟩:=hk1
    obtain ⟨i,z,hi,hiz,rfl⟩:=ZbT hz
    obtain ⟨i',hi',rfl,rfl⟩:=Zdw hs
    rw [hi] at hi'
    cases hi'
    refine .of (v:= .val (.slice (some ⟨w.heap.size,0,none⟩) l.toNat m.toNat)) (w':={ w with heap:=w.heap.push (.cells (X6 z.cells.toList m.toNat).toArray el)}) (s:=Instr.makeSlice t (a.eval x) (a.eval y)) rfl ?_ ⟨rfl,rfl,rfl⟩ hk2
    rw [hag.ev hx,hag.ev hy]
    exact Zkg hu hi hiz (by have:=Nat.eq_of_beq_eq_true hlen;simpa using this) h0 h1 h2 h3
   ·exact hk.elim
  ·exact hk.elim
end
end Go.Fw
