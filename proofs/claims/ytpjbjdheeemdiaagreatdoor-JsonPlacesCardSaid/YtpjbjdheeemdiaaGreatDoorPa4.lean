/- Why a reading is right: the operations, all of them. -/
import Derived.Laws.StructEq
import Derived.Maps.RangeRun
import Derived.Test.YtpjbjdheeemdiaaGreatDoorPa3
set_option linter.unusedVariables false
set_option linter.unusedSimpArgs false
namespace Go.Fw
open Go
theorem Xv {b:Bool} {A:Prop} (h:bif b then A else False):b=true∧A:=by
  cases b with
  | true=>exact ⟨rfl,h⟩
  | false=>exact h.elim
theorem Zcp {P:Program} {w:World} {s d:TypeId} {k k' j:IntKind} {n:Int} (hs:P.underlying s=some (.int j)) (hd:P.underlying d=some (.int k)) :
    (convert s d (.int k' n)).run P w = .ok (.int k (k.wrap n)) w:=by
  unfold convert
  simp only [Sem.run_bind,Zb P w s hs,Zb P w d hd,Result.andThen_ok]
  rfl
theorem ZdG {P:Program} {w:World} {s d:TypeId} {x:ByteArray} (hs:P.underlying s=some .string) (hd:P.underlying d=some .string) :
    (convert s d (.string x)).run P w = .ok (.string x) w:=by
  unfold convert
  simp only [Sem.run_bind,Zb P w s hs,Zb P w d hd,Result.andThen_ok]
  rfl
theorem Zfc {P:Program} {w:World} {s d e:TypeId} {x:ByteArray} (hs:P.underlying s=some .string) (hd:P.underlying d=some (.slice e)) (he:P.underlying e=some (.int .u8)) :
    (convert s d (.string x)).run P w=(Conv.stringToBytes e x).run P w:=by
  unfold convert
  simp only [Sem.run_bind,Zb P w s hs,Zb P w d hd,Zb P w e he,Result.andThen_ok]
theorem Zcq {P:Program} {w:World} {s d e:TypeId} {p:Option Addr} {l m:Nat} (hs:P.underlying s=some (.slice e)) (hd:P.underlying d=some .string) (he:P.underlying e=some (.int .u8)) :
    (convert s d (.slice p l m)).run P w=(Conv.bytesToString (.slice p l m)).run P w:=by
  unfold convert
  simp only [Sem.run_bind,Zb P w s hs,Zb P w d hd,Zb P w e he,Result.andThen_ok]
theorem Zev {P:Program} {w:World} {s e e':TypeId} {b o l m:Nat} {c:Array Value} {t:TypeId} (hs:P.underlying s=some (.slice e')) (hd:P.underlying s=some (.slice e)) (he:P.underlying e=some (.int .u8))
    (hb:w.heap[b]?=some (.cells c t (0,0))):(convert s s (.slice (some ⟨b,o,none⟩) l m)).run P w = .ok (.slice (some ⟨b,o,none⟩) l m) { w with heap:=Zc.frz w.heap b }:=by
  unfold convert
  simp only [Sem.run_bind,Zb P w s hs,Zb P w e' (by rw [hs] at hd;cases hd;exact he),Result.andThen_ok,BEq.rfl]
  unfold markStringish
  have hshape:w.shape? b=some (t,c.size):=by unfold World.shape?;rw [hb]
  simp only [Sem.run_bind,run_shape,hshape,Result.andThen_ok,run_freeze,Sem.run_pure]
  have hfz:World.freeze w { block:=b,off:=c.size } 1={ w with heap:=Zc.frz w.heap b }:=by
    unfold World.freeze Zc.frz
    simp only [Nat.one_ne_zero,if_false]
    refine congrArg (fun h=>({ w with heap:=h }:World)) ?_
    apply Array.ext_getElem?
    intro i
    rw [Array.getElem?_modify,Array.getElem?_modify]
    by_cases hi:b=i
    ·subst hi
     rw [if_pos rfl,if_pos rfl,hb]
     simp
    ·rw [if_neg hi,if_neg hi]
  rw [hfz]
def Val (c:Cfg) (o:Oper) (a:Act) (w:World) (K:EV→Zc→Prop):Prop :=
  ∃ v w',(execOp a.eval o).run c.P w = .ok (.value v.v) w'∧Same w w'∧K v w'.heap
theorem Val.wp {c:Cfg} {o:Oper} {a:Act} {w:World} {K:EV→Zc→Prop} {next:Act→World→Prop} {Q:Exit→Act→World→Prop}
    (h:Val c o a w K) (hn:∀ v w',Same w w'→K v w'.heap→next (a.put o.dst v.v) w'):o.wpIn (fen c.rnd) 0 c.P a w next Q :=
  let ⟨v,_,hr,hs,hk⟩:=h
  Zot hr (hn v _ hs hk)
theorem Val.of {c:Cfg} {o:Oper} {a:Act} {w w':World} {K:EV→Zc→Prop} {v:EV} {s:Sem Value} (he:execOp a.eval o=(do pure (.value (← s)))) (hr:s.run c.P w = .ok v.v w') (hs:Same w w') (hk:K v w'.heap) :
    Val c o a w K:=⟨v,w',by rw [he];exact ZlT hr,hs,hk⟩
def Zjx (c:Cfg) (o:Oper) (a:Act) (h:Zc) (K:EV→Zc→Prop):Prop :=
  ∃ v:EV,(∀ w:World,w.heap=h→(execOp a.eval o).run c.P w = .ok (.value v.v) w)∧K v h
def Zag (c:Cfg) (o:Oper) (a:Act) (h:Zc) (K:EV→Zc→Prop):Prop :=
  ∃ v:EV,(∀ w:World,True→(execOp a.eval o).run c.P w = .ok (.value v.v) w)∧K v h
theorem Zag.q {c:Cfg} {o:Oper} {a:Act} {h:Zc} {K:EV→Zc→Prop} (hp:Zag c o a h K):Zjx c o a h K :=
  let ⟨v,hr,hk⟩:=hp
  ⟨v,fun w _=>hr w trivial,hk⟩
theorem Zag.of {c:Cfg} {o:Oper} {a:Act} {h:Zc} {K:EV→Zc→Prop} {v:EV} {s:Sem Value} (he:execOp a.eval o=(do pure (.value (← s)))) (hr:∀ w:World,True→s.run c.P w = .ok v.v w) (hk:K v h) :
    Zag c o a h K:=⟨v,fun w hw=>by rw [he];exact ZlT (hr w hw),hk⟩
theorem Zjx.val {c:Cfg} {o:Oper} {a:Act} {w:World} {K:EV→Zc→Prop} (h:Zjx c o a w.heap K):Val c o a w K :=
  let ⟨v,hr,hk⟩:=h
  ⟨v,w,hr w rfl,Same.refl w,hk⟩
theorem Zag.val {c:Cfg} {o:Oper} {a:Act} {w:World} {K:EV→Zc→Prop} (h:Zag c o a w.heap K):Val c o a w K:=h.q.val
theorem Zjx.of {c:Cfg} {o:Oper} {a:Act} {h:Zc} {K:EV→Zc→Prop} {v:EV} {s:Sem Value} (he:execOp a.eval o=(do pure (.value (← s)))) (hr:∀ w:World,w.heap=h→s.run c.P w = .ok v.v w) (hk:K v h) :
    Zjx c o a h K:=⟨v,fun w hw=>by rw [he];exact ZlT (hr w hw),hk⟩
section
variable {c:Cfg} {e:Env} {a:Act} {w:World} {h:Zc} {K:EV→Zc→Prop} {dst:Option Tmp} {type:TypeId} {pos:String} {after:Array Edge} {guard:Option (Nat × Bool)}
theorem Zg9 (hag:Agr c.n e a) {x:Operand} (hk:opP c (.move x) e h K):Zag c ⟨dst,.move x,type,pos,after,guard⟩ a h K:=by
  simp only [opP] at hk
  split at hk
  ·rename_i v hv
   exact ⟨v,fun w hw=>by simp [execOp,hag.ev hv],hk⟩
  ·exact hk.elim
theorem ZdY (hag:Agr c.n e a) {x:Operand} (hk:opP c (.assign x) e h K):Zag c ⟨dst,.assign x,type,pos,after,guard⟩ a h K:=by
  simp only [opP] at hk
  split at hk
  ·rename_i k n hv
   exact ⟨.val (.int k n),fun w hw=>by simp [execOp,hag.ev hv],hk⟩
  ·rename_i b hv
   exact ⟨.val (.bool b),fun w hw=>by simp [execOp,hag.ev hv],hk⟩
  ·rename_i v _ _ hv
   exact ⟨v,fun w hw=>by simp [execOp,hag.ev hv],hk⟩
  ·exact hk.elim
theorem Zg8 (hag:Agr c.n e a) {x y z:Operand} (hk:opP c (.pick x y z) e h K):Zag c ⟨dst,.pick x y z,type,pos,after,guard⟩ a h K:=by
  simp only [opP] at hk
  split at hk
  ·rename_i u hx hy
   refine ⟨u,fun w hw=>?_,hk⟩
   simp only [execOp,hag.ev hx,hag.ev hy]
   rfl
  ·rename_i u hx hy
   refine ⟨u,fun w hw=>?_,hk⟩
   simp only [execOp,hag.ev hx,hag.ev hy]
   rfl
  ·rename_i b u v hx hu hv
   split at hk
   ·rename_i p q hp hq
    refine ⟨_,fun w hw=>?_,hk⟩
    simp only [execOp,hag.ev hx,hag.ev hu,hag.ev hv,hp,hq]
    cases b<;>rfl
   ·exact hk.elim
  ·exact hk.elim
theorem ZlA {t:TypeId} (hk:opP c (.alloc t) e w.heap K):Val c ⟨dst,.alloc t,type,pos,after,guard⟩ a w K:=by
  simp only [opP] at hk
  split at hk
  ·rename_i zs hz
   obtain ⟨i,v,hi,hv,rfl⟩:=XV hz
   exact .of (v:= .adr w.heap.size 0) rfl (ZlU c.P w t v hi hv) ⟨rfl,rfl,rfl⟩ hk
  ·exact hk.elim
theorem Zo0 (hag:Agr c.n e a) {t:TypeId} {x:Operand} (hk:opP c (.box t x) e w.heap K):Val c ⟨dst,.box t x,type,pos,after,guard⟩ a w K:=by
  simp only [opP] at hk
  split at hk
  ·rename_i v hv
   refine .of (v:= .adr w.heap.size 0) rfl (Zpa c.P w t _) ⟨rfl,rfl,rfl⟩ ?_
   rw [hag.ev hv]
   cases hd:Zms (c.P.underlying t) with
   | true =>
     rw [hd] at hk
     obtain ⟨h1,hk⟩:=(show ZbA _ _ from hk)
     have:v.v.cells=[v.v].toArray:=by
       revert h1
       cases v.v<;>intro h1<;>first | rfl | cases h1
     rw [this]
     exact hk
   | false =>
     rw [hd] at hk
     rw [ZhQ]
     exact hk
  ·exact hk.elim
theorem Zfo (ps:Array (Nat × Operand)) (a:Act) (f:Nat × Operand→Nat × Value) (hf:∀ x,f x=(x.1,a.eval x.2)):ps.map f=(ps.toList.map fun x=>(x.1,a.eval x.2)).toArray:=by
  apply Array.ext'
  simp [funext hf]
theorem ZnN {o:Op} {F:Array (Nat × Value)→Sem Value} {ps:Array (Nat × Operand)} {f:Nat × Operand→Nat × Value} {v:EV} {w':World}
    (he:execOp a.eval ⟨dst,o,type,pos,after,guard⟩=(do pure (.value (← F (ps.map f))))) (hf:∀ x,f x=(x.1,a.eval x.2))
    (hr:(F (ps.toList.map fun x=>(x.1,a.eval x.2)).toArray).run c.P w = .ok v.v w') (hs:Same w w') (hk:K v w'.heap):Val c ⟨dst,o,type,pos,after,guard⟩ a w K:=by
  rw [Zfo ps a f hf] at he
  exact .of he hr hs hk
theorem Zik {o:Op} {F:Array (Nat × Value)→Sem Value} {ps:Array (Nat × Operand)} {f:Nat × Operand→Nat × Value} {v:EV}
    (he:execOp a.eval ⟨dst,o,type,pos,after,guard⟩=(do pure (.value (← F (ps.map f))))) (hf:∀ x,f x=(x.1,a.eval x.2))
    (hr:∀ w:World,True→(F (ps.toList.map fun x=>(x.1,a.eval x.2)).toArray).run c.P w = .ok v.v w) (hk:K v h):Zag c ⟨dst,o,type,pos,after,guard⟩ a h K:=by
  rw [Zfo ps a f hf] at he
  exact .of he hr hk
theorem Ze4 (hag:Agr c.n e a) {t:TypeId} {ps:Array (Nat × Operand)} (hk:opP c (.build t ps) e h K):Zag c ⟨dst,.build t ps,type,pos,after,guard⟩ a h K:=by
  simp only [opP] at hk
  split at hk
  ·rename_i fs zs hu hz
   split at hk
   ·rename_i l hl
    obtain ⟨hall,hk⟩:=Xv hk
    obtain ⟨hone,hk⟩:=ZgF hk
    refine Zik (F:=Instr.build t) rfl (fun _=>rfl) (fun w hw=>?_) hk
    exact Zew c.P w t hu hz hall (Zeo c.P fs.toList hag zs.length hl hone)
   ·exact hk.elim
  ·rename_i n el zs hu hz
   split at hk
   ·rename_i l hl
    obtain ⟨hsome,hk⟩:=Xv hk
    obtain ⟨j,hj⟩:=Option.isSome_iff_exists.1 hsome
    refine Zik (F:=Instr.build t) rfl (fun _=>rfl) (fun w hw=>?_) hk
    exact Zfd c.P w t hu hz hj (Zct (c.P.cellsOf el) hag zs.length hl)
   ·exact hk.elim
  ·exact hk.elim
theorem ZfX (hag:Agr c.n e a) {t:TypeId} {n:Nat} {ps:Array (Nat × Operand)} (hk:opP c (.buildSlice t n ps) e w.heap K):Val c ⟨dst,.buildSlice t n ps,type,pos,after,guard⟩ a w K:=by
  simp only [opP] at hk
  split at hk
  ·rename_i el hu
   split at hk
   ·rename_i zs l hz hl
    obtain ⟨h1,hk⟩:=Xv hk
    obtain ⟨h2,hk⟩:=Xv hk
    have hr:=Zf5 c.P w t hu hz (Nat.eq_of_beq_eq_true h2) (Nat.le_of_ble_eq_true h1) (Zct (c.P.cellsOf el) hag _ hl)
    exact ZnN (F:=Instr.buildSlice t n) (v:= .val (.slice (some ⟨w.heap.size,0,none⟩) n n)) rfl (fun _=>rfl) hr ⟨rfl,rfl,rfl⟩ hk
   ·exact hk.elim
  ·exact hk.elim
theorem Zhb (hag:Agr c.n e a) {t:TypeId} {x:Operand} (hk:opP c (.load t x) e h K):Zjx c ⟨dst,.load t x,type,pos,after,guard⟩ a h K:=by
  simp only [opP] at hk
  split at hk
  ·rename_i v hv
   obtain ⟨b,o,hp,hk⟩:=Zc3 hk
   obtain ⟨u,hr,hk⟩:=Zj0 hk
   refine Zjx.of (s:=Instr.loadAt t (a.eval x)) rfl (fun w hw=>?_) hk
   rw [hag.ev hv,hp]
   exact Zgu (hr w hw)
  ·exact hk.elim
theorem Zcj (hag:Agr c.n e a) {x:Operand} (hk:opP c (.nilCheck x) e h K):Zag c ⟨dst,.nilCheck x,type,pos,after,guard⟩ a h K:=by
  simp only [opP] at hk
  split at hk
  ·rename_i v hv
   obtain ⟨b,o,hp,hk⟩:=Zc3 hk
   refine ⟨.adr b o,fun w hw=>?_,hk⟩
   simp only [execOp,hag.ev hv,hp]
   rfl
  ·exact hk.elim
theorem Zb0 {op:BinOp} {t:TypeId} {x y:Operand} {u v:Value} (h:(∀ cs,u≠ .agg cs)∧u≠ .nilIface):(eqGuard op t x y u v).run c.P w = .ok () w:=by
  unfold eqGuard
  cases op<;>first
    | rfl
    | (cases u<;>first | rfl | exact absurd rfl (h.1 _) | exact absurd rfl h.2)
theorem ZmZ {op:BinOp} {x y:EV} {K:EV→Prop} (h:ZoS op x y K):(∀ cs,x.v≠ .agg cs)∧x.v≠ .nilIface:=by
  unfold ZoS at h
  split at h
  ·exact ⟨fun _ h=>(by cases h),fun h=>(by cases h)⟩
  ·exact ⟨fun _ h=>(by cases h),fun h=>(by cases h)⟩
  ·exact h.elim
theorem Zod {d:Option TypeDesc} {neg:Bool} {x y:EV} {K:EV→Prop} (h:eqP d neg x y K):(∀ cs,x.v≠ .agg cs)∧x.v≠ .nilIface:=by
  unfold eqP at h
  split at h
  ·exact ⟨fun _ h=>(by cases h),fun h=>(by cases h)⟩
  ·exact ⟨fun _ h=>(by cases h),fun h=>(by cases h)⟩
  ·exact ⟨fun _ h=>(by cases h),fun h=>(by cases h)⟩
  ·exact ⟨fun _ h=>(by cases h),fun h=>(by cases h)⟩
  ·split at h
   ·rename_i hx _
    rw [hx]
    exact ⟨fun _ h=>(by cases h),fun h=>(by cases h)⟩
   ·exact h.elim
  ·exact h.elim
theorem ZbY {P:Program} {t:TypeId} {x y:Value} {b:Bool} {d:Nat} {w:World} (h:ZbZ (P.underlying t) x y=some b):Xd (P.underlying t)=false∧(P.underlying t).isSome=true∧(Op.equalIn (d+1) t x y).run P w = .ok b w:=by
  unfold ZbZ at h
  split at h
  ·rename_i k' k a k'' b' hu
   split at h
   ·rename_i hk
    subst hk
    simp only [Option.some.injEq] at h
    subst h
    rw [hu]
    exact ⟨rfl,rfl,run_equalIn_int w d t _ _ _ _ hu⟩
   ·cases h
  ·rename_i a b' hu
   simp only [Option.some.injEq] at h
   subst h
   rw [hu]
   exact ⟨rfl,rfl,run_equalIn_string w d t _ _ hu⟩
  ·rename_i a b' hu
   simp only [Option.some.injEq] at h
   subst h
   rw [hu]
   exact ⟨rfl,rfl,run_equalIn_bool' w d t _ _ hu⟩
  ·cases h
theorem Xs {P:Program} {w:World} {t:TypeId} {xs:Array Value} {off:Nat} {x:Value} (h1:Xd (P.underlying t)=false) (h2:(P.underlying t).isSome=true) (hx:xs[off]?=some x):(part t xs off).run P w = .ok x w:=by
  obtain ⟨d,hu⟩:=Option.isSome_iff_exists.1 h2
  rw [hu] at h1
  unfold part
  simp only [Sem.run_bind,Zax P w t hu,h1,Result.andThen_ok,Bool.false_eq_true,if_false,hx]
  rfl
theorem Zb1 {P:Program} {xs ys:Array Value} {d:Nat} {w:World}:∀ {fs:List Field} {b:Bool},Za9 P fs xs.toList ys.toList=some b→(Op.eqFields (d+1) xs ys fs).run P w = .ok b w
  | [],b,h=>by
    simp only [Za9,Option.some.injEq] at h
    subst h
    rfl
  | f::fs,b,h=>by
    simp only [Za9] at h
    cases hn:f.name == "_" with
    | true=>rw [hn] at h;cases h
    | false =>
      rw [hn] at h
      simp only [cond_false] at h
      split at h
      ·rename_i x y hx hy
       split at h
       ·rename_i a r ha hr
        simp only [Option.some.injEq] at h
        subst h
        have hne:f.name≠ "_" :=by
          intro he
          rw [he] at hn
          simp at hn
        have hx':xs[f.offset]?=some x:=by simpa using hx
        have hy':ys[f.offset]?=some y:=by simpa using hy
        obtain ⟨h1,h2,h3⟩:=ZbY (d:=d) (w:=w) ha
        simp only [Op.eqFields,hne,ne_eq,not_false_eq_true,if_true,Sem.run_bind,Xs h1 h2 hx',Xs h1 h2 hy',h3,Result.andThen_ok]
        cases a with
        | true=>simpa using Zb1 hr
        | false=>simp
       ·cases h
      ·cases h
theorem Zcn {P:Program} {w:World} {t:TypeId} {gs:Array Field} {xs:Array Value} {off:Nat} (hu:P.underlying t=some (.struct gs)) (hn:off+P.cellsOf t≤xs.size) :
    (part t xs off).run P w = .ok (.agg ⟨(xs.toList.drop off).take (P.cellsOf t)⟩) w:=by
  obtain ⟨i,hi⟩:=YN P hu
  unfold part
  simp only [Sem.run_bind,Zax P w t hu,Result.andThen_ok,Xd,if_true,Ye P w t hi,Sem.run_pure]
  rw [Xe P hi]
  congr 2
  apply Array.ext'
  simp [List.take_drop,Nat.add_comm]
theorem Zfb {P:Program} {w:World} {t el:TypeId} {n:Nat} {gs:Array Field} {cs:Array Value} {k:IntKind} {i:Int} (hu:P.underlying t=some (.array n el)) (he:P.underlying el=some (.struct gs)) (h0:0≤i) (h1:i<n) (hl:cs.toList.length=n*P.cellsOf el) :
    (Instr.index t (.agg cs) (.int k i)).run P w = .ok (.agg ⟨(cs.toList.drop (i.toNat*P.cellsOf el)).take (P.cellsOf el)⟩) w:=by
  obtain ⟨inf,hi⟩:=YN P he
  have hs:P.cellsOf el=inf.size:=by unfold Program.cellsOf;rw [hi];rfl
  have hb:i.toNat*P.cellsOf el+P.cellsOf el≤cs.size:=by
    have h2:i.toNat+1≤n:=by omega
    have:=Nat.mul_le_mul_right (P.cellsOf el) h2
    rw [Nat.add_mul,Nat.one_mul,← hl] at this
    simpa using this
  have:=Zcn (w:=w) (xs:=cs) he hb
  unfold Instr.index asIntOf
  simp only [Sem.run_bind,Sem.run_pure,Result.andThen_ok,Zb P w t hu,if_pos (And.intro h0 h1),Ye P w el hi,← hs]
  exact this
theorem Zbs {P:Program} {xs ys:Array Value} {d:Nat} {w:World}:∀ {fs:List Field} {b:Bool},ZaU P fs xs.toList ys.toList=some b→(Op.eqFields (d+1+1) xs ys fs).run P w = .ok b w
  | [],b,h=>by
    simp only [ZaU,Option.some.injEq] at h
    subst h
    rfl
  | f::fs,b,h=>by
    simp only [ZaU] at h
    cases hn:f.name == "_" with
    | true=>rw [hn] at h;cases h
    | false =>
      rw [hn] at h
      simp only [cond_false] at h
      have hne:f.name≠ "_" :=by
        intro he
        rw [he] at hn
        simp at hn
      split at h
      ·rename_i gs hu
       cases hst:P.stoodInHeld f.type with
       | true=>rw [hst] at h;cases h
       | false =>
         rw [hst] at h
         simp only [cond_false] at h
         cases hle:(Nat.ble (f.offset+P.cellsOf f.type) xs.toList.length&&Nat.ble (f.offset+P.cellsOf f.type) ys.toList.length) with
         | false=>rw [hle] at h;cases h
         | true =>
           rw [hle] at h
           simp only [cond_true] at h
           simp only [Bool.and_eq_true,Nat.ble_eq,Array.length_toList] at hle
           split at h
           ·rename_i a r ha hr
            simp only [Option.some.injEq] at h
            subst h
            have hf:P.fieldsOf f.type=gs:=by unfold Program.fieldsOf;rw [hu]
            have h3:(Op.equalIn (d+1+1) f.type (.agg ⟨(xs.toList.drop f.offset).take (P.cellsOf f.type)⟩) (.agg ⟨(ys.toList.drop f.offset).take (P.cellsOf f.type)⟩)).run P w = .ok a w:=by
              rw [run_equalIn_agg w _ f.type _ _ (by rw [hf];exact hu) hst,hf]
              exact Zb1 ha
            simp only [Op.eqFields,hne,ne_eq,not_false_eq_true,if_true,Sem.run_bind,Zcn hu hle.1,Zcn hu hle.2,h3,Result.andThen_ok]
            cases a with
            | true=>simpa using Zbs hr
            | false=>simp
           ·cases h
      ·rename_i u hns
       split at h
       ·rename_i x y hx hy
        split at h
        ·rename_i a r ha hr
         simp only [Option.some.injEq] at h
         subst h
         have hx':xs[f.offset]?=some x:=by simpa using hx
         have hy':ys[f.offset]?=some y:=by simpa using hy
         obtain ⟨h1,h2,h3⟩:=ZbY (d:=d+1) (w:=w) ha
         simp only [Op.eqFields,hne,ne_eq,not_false_eq_true,if_true,Sem.run_bind,Xs h1 h2 hx',Xs h1 h2 hy',h3,Result.andThen_ok]
         cases a with
         | true=>simpa using Zbs hr
         | false=>simp
        ·cases h
       ·cases h
theorem ZmK {P:Program} {t:TypeId} {fs:Array Field} {x y:EV} {K:Bool→Prop} (hu:P.underlying t=some (.struct fs)) (hk:eqS P t fs x y K) :
    ∃ (xs ys:Array Value) (b:Bool),x.v = .agg xs∧y.v = .agg ys∧P.eqGuardType P.depth t=false∧(∀ w,(Op.equalIn 10000 t (.agg xs) (.agg ys)).run P w = .ok b w)∧K b:=by
  unfold eqS at hk
  split at hk
  ·rename_i xs ys
   cases hc:(P.stoodInHeld t||P.eqGuardType P.depth t) with
   | true=>rw [hc] at hk;exact hk.elim
   | false =>
     rw [hc] at hk
     simp only [cond_false] at hk
     rw [Bool.or_eq_false_iff] at hc
     split at hk
     ·rename_i b hb
      have hf:P.fieldsOf t=fs:=by unfold Program.fieldsOf;rw [hu]
      refine ⟨xs,ys,b,rfl,rfl,hc.2,fun w=>?_,hk⟩
      rw [show (10000:Nat)=9997+1+1+1 from rfl,run_equalIn_agg w _ t xs ys (by rw [hf];exact hu) hc.1,hf]
      exact Zbs hb
     ·exact hk.elim
  ·exact hk.elim
theorem ZfF {op:BinOp} {t:TypeId} {x:Operand} {u:Value} {w:World} (h:∀ cs,u≠ .agg cs):(eqGuard op t x (.const .nilIface) u .nilIface).run c.P w = .ok () w:=by
  unfold eqGuard
  cases op<;>first
    | rfl
    | (cases u<;>first | rfl | exact absurd rfl (h _) | (simp [Sem.run_pure]))
theorem Ze5 (hag:Agr c.n e a) {op:BinOp} {t t':TypeId} {x y:Operand} (hk:opP c (.binOp op t x y t') e h K):Zag c ⟨dst,.binOp op t x y t',type,pos,after,guard⟩ a h K:=by
  have bin:∀ {u v:EV},e.ev x=some u→e.ev y=some v→ZoS op u v (fun v=>K v h)→Zag c ⟨dst,.binOp op t x y t',type,pos,after,guard⟩ a h K:=by
    intro u v hu hv hb
    obtain ⟨r,hr,hk⟩:=Zok (P:=c.P) (t:=t) hb
    refine Zag.of (s:=do eqGuard op t x y (a.eval x) (a.eval y);binOp op t (a.eval x) (a.eval y)) rfl (fun w hw=>?_) hk
    rw [hag.ev hu,hag.ev hv]
    simp only [Sem.run_bind,Zb0 (ZmZ hb),Result.andThen_ok,hr w]
  have eqq:∀ {u v:EV} {neg:Bool},op=(bif neg then .neq else .eql)→e.ev x=some u→e.ev y=some v→eqP (c.P.underlying t) neg u v (fun v=>K v h)→Zag c ⟨dst,.binOp op t x y t',type,pos,after,guard⟩ a h K:=by
    rintro u v neg rfl hu hv hb
    obtain ⟨r,hr,hk⟩:=ZpA (P:=c.P) hb
    refine Zag.of (s:=do eqGuard (bif neg then .neq else .eql) t x y (a.eval x) (a.eval y);binOp (bif neg then .neq else .eql) t (a.eval x) (a.eval y)) rfl (fun w hw=>?_) hk
    rw [hag.ev hu,hag.ev hv]
    simp only [Sem.run_bind,Zb0 (Zod hb),Result.andThen_ok,hr w]
  have eqnil:∀ {u:EV} {neg:Bool} {ms:Array (String × TypeId)} {t'':TypeId},op=(bif neg then .neq else .eql)→c.P.underlying t=some (.interface ms)→e.ev x=some u→Zep u.v (fun b=>K (.val (.bool (bif neg then !b else b))) h)→Zag c ⟨dst,.binOp op t x (.const .nilIface) t'',type,pos,after,guard⟩ a h K:=by
    rintro u neg ms t'' rfl hud hu hb
    rcases hb with ⟨hv,hb⟩ | ⟨t2,u2,hv,hb⟩
    ·refine Zag.of (s:=do eqGuard (bif neg then .neq else .eql) t x (.const .nilIface) (a.eval x) .nilIface;binOp (bif neg then .neq else .eql) t (a.eval x) .nilIface) rfl (fun w hw=>?_) hb
     rw [hag.ev hu,hv]
     have:=ZhL w hud
     cases neg<;>simp only [cond_true,cond_false,EV.v,binOp,Sem.run_bind,ZfF (u:=Value.nilIface) (fun _ h=>(by cases h)),this,Result.andThen_ok]<;>rfl
    ·refine Zag.of (s:=do eqGuard (bif neg then .neq else .eql) t x (.const .nilIface) (a.eval x) .nilIface;binOp (bif neg then .neq else .eql) t (a.eval x) .nilIface) rfl (fun w hw=>?_) hb
     rw [hag.ev hu,hv]
     have:=ZfE w hud t2 u2
     cases neg<;>simp only [cond_true,cond_false,EV.v,binOp,Sem.run_bind,ZfF (u:=Value.iface t2 u2) (fun _ h=>(by cases h)),this,Result.andThen_ok]<;>rfl
  have eqnilF:∀ {u:EV} {neg:Bool} {ps rs:Array TypeId} {vr:Bool} {t'':TypeId},op=(bif neg then .neq else .eql)→c.P.underlying t=some (.func ps rs vr)→e.ev x=some u→Zmt u.v (fun b=>K (.val (.bool (bif neg then !b else b))) h)→Zag c ⟨dst,.binOp op t x (.const .nilFunc) t'',type,pos,after,guard⟩ a h K:=by
    rintro u neg ps rs vr t'' rfl hud hu hb
    rcases hb with ⟨hv,hb⟩ | ⟨f2,a2,b2,hv,hb⟩
    ·refine Zag.of (s:=do eqGuard (bif neg then .neq else .eql) t x (.const .nilFunc) (a.eval x) .nilFunc;binOp (bif neg then .neq else .eql) t (a.eval x) .nilFunc) rfl (fun w hw=>?_) hb
     rw [hag.ev hu,hv]
     have:=Zgb w hud
     cases neg<;>simp only [cond_true,cond_false,EV.v,binOp,Sem.run_bind,Zb0 (u:=Value.nilFunc) ⟨fun _ h=>(by cases h),fun h=>(by cases h)⟩,this,Result.andThen_ok]<;>rfl
    ·refine Zag.of (s:=do eqGuard (bif neg then .neq else .eql) t x (.const .nilFunc) (a.eval x) .nilFunc;binOp (bif neg then .neq else .eql) t (a.eval x) .nilFunc) rfl (fun w hw=>?_) hb
     rw [hag.ev hu,hv]
     have:=Zgc w hud f2 a2 b2
     cases neg<;>simp only [cond_true,cond_false,EV.v,binOp,Sem.run_bind,Zb0 (u:=Value.func f2 a2 b2) ⟨fun _ h=>(by cases h),fun h=>(by cases h)⟩,this,Result.andThen_ok]<;>rfl
  simp only [opP] at hk
  split at hk
  ·rename_i u v hu hv
   split at hk
   ·exact bin hu hv hk
   ·exact bin hu hv hk
   ·exact bin hu hv hk
   ·exact bin hu hv hk
   ·rename_i fs hud
    obtain ⟨xs,ys,b,hx,hy,hg,hr,hk⟩:=ZmK hud hk
    refine Zag.of (v:= .val (.bool b)) (s:=do eqGuard .eql t x y (a.eval x) (a.eval y);binOp .eql t (a.eval x) (a.eval y)) rfl (fun w hw=>?_) hk
    rw [hag.ev hu,hag.ev hv,hx,hy]
    simp only [Sem.run_bind,run_eqGuard_agg w .eql t x y xs ys hg,Result.andThen_ok,run_eql_struct,hr w]
    rfl
   ·rename_i fs hud
    obtain ⟨xs,ys,b,hx,hy,hg,hr,hk⟩:=ZmK hud hk
    refine Zag.of (v:= .val (.bool (!b))) (s:=do eqGuard .neq t x y (a.eval x) (a.eval y);binOp .neq t (a.eval x) (a.eval y)) rfl (fun w hw=>?_) hk
    rw [hag.ev hu,hag.ev hv,hx,hy]
    simp only [Sem.run_bind,run_eqGuard_agg w .neq t x y xs ys hg,Result.andThen_ok,run_neq_struct,hr w]
    rfl
   ·rename_i ms hud
    split at hk
    ·exact eqnil (neg:=false) rfl hud hu hk
    ·exact hk.elim
   ·rename_i ms hud
    split at hk
    ·exact eqnil (neg:=true) rfl hud hu hk
    ·exact hk.elim
   ·rename_i ps rs vr hud
    split at hk
    ·exact eqnilF (neg:=false) rfl hud hu hk
    ·exact hk.elim
   ·rename_i ps rs vr hud
    split at hk
    ·exact eqnilF (neg:=true) rfl hud hu hk
    ·exact hk.elim
   ·exact eqq (neg:=false) rfl hu hv hk
   ·exact eqq (neg:=true) rfl hu hv hk
   ·exact bin hu hv hk
  ·exact hk.elim
theorem Zg7 (hag:Agr c.n e a) {op:UnOp} {t:TypeId} {x:Operand} (hk:opP c (.unOp op t x) e h K):Zag c ⟨dst,.unOp op t x,type,pos,after,guard⟩ a h K:=by
  simp only [opP] at hk
  split at hk
  ·rename_i b hv
   refine ⟨_,fun w hw=>?_,hk⟩
   simp only [execOp,hag.ev hv,EV.v]
   rfl
  ·rename_i b hv
   refine ⟨_,fun w hw=>?_,hk⟩
   simp only [execOp,hag.ev hv,EV.v]
   rfl
  ·rename_i k n hv
   refine ⟨_,fun w hw=>?_,hk⟩
   simp only [execOp,hag.ev hv,EV.v]
   rfl
  ·exact hk.elim
theorem Zcl (hag:Agr c.n e a) {s d:TypeId} {x:Operand} {j k:IntKind} (hs:c.P.underlying s=some (.int j)) (hd:c.P.underlying d=some (.int k)) (hk:opP c (.convert s d x) e h K) :
    Zag c ⟨dst,.convert s d x,type,pos,after,guard⟩ a h K:=by
  simp only [opP,hs,hd] at hk
  split at hk
  ·rename_i k2 k' n h1 h2 hv
   cases h2
   refine Zag.of (s:=convert s d (a.eval x)) rfl (fun w hw=>?_) hk
   rw [hag.ev hv]
   exact Zcp hs hd
  all_goals first
    | exact hk.elim
    | (rename_i h1 _ _;cases h1)
    | (rename_i h1 _;cases h1)
    | (rename_i h1;cases h1)
theorem ZiR (hag:Agr c.n e a) {s d:TypeId} {x:Operand} (hk:opP c (.convert s d x) e w.heap K):Val c ⟨dst,.convert s d x,type,pos,after,guard⟩ a w K:=by
  simp only [opP] at hk
  split at hk
  ·rename_i j k k' n hs hd hv
   refine .of (s:=convert s d (a.eval x)) rfl ?_ (Same.refl w) hk
   rw [hag.ev hv]
   exact Zcp hs hd
  ·rename_i y hs hd hv
   refine .of (s:=convert s d (a.eval x)) rfl ?_ (Same.refl w) hk
   rw [hag.ev hv]
   exact ZdG hs hd
  ·rename_i el y hs hd hv
   split at hk
   ·rename_i he
    obtain ⟨r,w',hr,hs',hk⟩:=Zo9 (P:=c.P) hk
    refine .of (v:= .val (.slice r.ptr r.len r.cap)) (s:=convert s d (a.eval x)) rfl ?_ hs' hk
    rw [hag.ev hv]
    exact (Zfc hs hd he).trans hr
   ·exact hk.elim
  ·rename_i el p l m hs hd hv
   split at hk
   ·rename_i he
    obtain ⟨r,hr,hk⟩:=Zi0 (P:=c.P) hk
    refine .of (v:= .val (.string r)) (s:=convert s d (a.eval x)) rfl ?_ (Same.refl w) hk
    rw [hag.ev hv]
    exact (Zcq hs hd he).trans hr
   ·exact hk.elim
  ·rename_i e' el p l m hs hd hv
   split at hk
   ·rename_i he
    obtain ⟨hsd,hk1⟩:=Xv hk
    clear hk
    have hsd':=Nat.eq_of_beq_eq_true hsd
    subst hsd'
    obtain ⟨b,o,c',t,rfl,hb,hk⟩:=hk1
    refine .of (v:= .val (.slice (some ⟨b,o,none⟩) l m)) (w':={ w with heap:=Zc.frz w.heap b }) (s:=convert s s (a.eval x)) rfl ?_ ⟨rfl,rfl,rfl⟩ hk
    rw [hag.ev hv]
    exact Zev hs hd he hb
   ·exact hk.elim
  ·exact hk.elim
theorem Zha (hag:Agr c.n e a) {t:TypeId} {x y:Operand} (hk:opP c (.makeSlice t x y) e w.heap K):Val c ⟨dst,.makeSlice t x y,type,pos,after,guard⟩ a w K:=by
  simp only [opP] at hk
  split at hk
  ·rename_i el k l k' m hu hx hy
   split at hk
   ·rename_i size bytes zs hs hz
    obtain ⟨hlen,hk1⟩:=Xv hk
    clear hk
    obtain ⟨h0,h1,h2,h3,hk2⟩:=hk1
    obtain ⟨i,z,hi,hiz,rfl⟩:=XV hz
    obtain ⟨i',hi',rfl,rfl⟩:=ZaS hs
    rw [hi] at hi'
    cases hi'
    refine .of (v:= .val (.slice (some ⟨w.heap.size,0,none⟩) l.toNat m.toNat)) (w':={ w with heap:=w.heap.push (.cells (YW z.cells.toList m.toNat).toArray el)}) (s:=Instr.makeSlice t (a.eval x) (a.eval y)) rfl ?_ ⟨rfl,rfl,rfl⟩ hk2
    rw [hag.ev hx,hag.ev hy]
    exact Zhj hu hi hiz (by have:=Nat.eq_of_beq_eq_true hlen;simpa using this) h0 h1 h2 h3
   ·exact hk.elim
  ·exact hk.elim
end
section
variable {c:Cfg} {e:Env} {a:Act} {w:World} {h:Zc} {K:EV→Zc→Prop} {dst:Option Tmp} {type:TypeId} {pos:String} {after:Array Edge} {guard:Option (Nat × Bool)}
theorem Zcw (hag:Agr c.n e a) {d n:Int} {x:Option Operand} (h:ZoB d (x.map e.ev)=some n):(x.map a.eval=none∧n=d)∨∃ k,x.map a.eval=some (.int k n):=by
  rcases Zl4 h with ⟨h1,h2⟩ | ⟨k,h1⟩
  ·left
   cases x with
   | none=>exact ⟨rfl,h2⟩
   | some x=>cases h1
  ·right
   cases x with
   | none=>cases h1
   | some x =>
     simp only [Option.map_some,Option.some.injEq] at h1
     exact ⟨k,by simp [hag.ev h1,EV.v]⟩
theorem Ze0 (hag:Agr c.n e a) {t:TypeId} {x:Operand} {lo hi mx:Option Operand} (hk:opP c (.slice t x lo hi mx) e h K):Zag c ⟨dst,.slice t x lo hi mx,type,pos,after,guard⟩ a h K:=by
  simp only [opP] at hk
  split at hk
  ·rename_i s hu hx
   split at hk
   ·rename_i l h hlo hhi
    obtain ⟨h0,h1,h2,hk⟩:=hk
    refine Zag.of (s:=Instr.sliceAt t (a.eval x) (lo.map a.eval) (hi.map a.eval) (Option.map a.eval none)) rfl (fun w hw=>?_) hk
    rw [hag.ev hx]
    exact ZdF hu (ZgW (m:=(s.size:Int)) (Zcw hag hlo) (Zcw hag hhi) (.inl ⟨rfl,rfl⟩) (fun _=>rfl) h0 h1 h2 (Int.le_refl _))
   ·exact hk.elim
  ·rename_i el p l m hu hx
   split at hk
   ·rename_i lo' up most size bytes hlo hhi hmx hs
    cases hb:hi.isNone&&mx.isSome with
    | true=>rw [hb] at hk;exact hk.elim
    | false =>
      rw [hb] at hk
      obtain ⟨h0,h1,h2,h3,hk⟩:=hk
      obtain ⟨i,hinf,hsz,_⟩:=ZaS hs
      refine Zag.of (v:= .val (.slice _ _ _)) (s:=Instr.sliceAt t (a.eval x) (lo.map a.eval) (hi.map a.eval) (mx.map a.eval)) rfl (fun w hw=>?_) hk
      rw [hag.ev hx]
      refine Zd4 hu hinf hsz (ZgW (Zcw hag hlo) (Zcw hag hhi) (Zcw hag hmx) ?_ h0 h1 h2 h3)
      intro hn
      cases hi with
      | some _=>cases hn
      | none =>
        cases mx with
        | none=>rfl
        | some _=>cases hb
   ·exact hk.elim
  ·exact hk.elim
theorem ZbJ (hag:Agr c.n e a) {s:TypeId} {x:Operand} {f:Nat} (hk:opP c (.fieldAddr s x f) e h K):Zag c ⟨dst,.fieldAddr s x f,type,pos,after,guard⟩ a h K:=by
  simp only [opP] at hk
  split at hk
  ·rename_i fs v hu hx
   split at hk
   ·rename_i fd hf
    cases hb:Nat.beq (c.P.cellsOf fd.type) 0 with
    | true=>rw [hb] at hk;exact hk.elim
    | false =>
      rw [hb] at hk
      obtain ⟨b,o,hp,hk⟩:=Zc3 hk
      rw [Zjt] at hk
      refine Zag.of (s:=Instr.fieldAt s (a.eval x) f) rfl (fun w hw=>?_) hk
      rw [hag.ev hx,hp]
      exact ZiZ hu hf (Nat.ne_of_beq_eq_false hb)
   ·exact hk.elim
  ·exact hk.elim
theorem Ze2 (hag:Agr c.n e a) {s:TypeId} {x:Operand} {f:Nat} (hk:opP c (.field s x f) e h K):Zag c ⟨dst,.field s x f,type,pos,after,guard⟩ a h K:=by
  simp only [opP] at hk
  split at hk
  ·rename_i fs cs hu hx
   split at hk
   ·rename_i fd hf
    cases hd:c.P.underlying fd.type with
    | none=>rw [hd] at hk;exact hk.elim
    | some d =>
      obtain ⟨i,hi⟩:=YN c.P hd
      rw [hd] at hk
      cases ha:Xd (some d) with
      | true =>
        rw [ha,Xe c.P hi] at hk
        refine Zag.of (v:= .val (.agg _)) (s:=Instr.field s (a.eval x) f) rfl (fun w hw=>?_) hk
        rw [hag.ev hx]
        exact Zhl hu hf hd ha hi
      | false =>
        rw [ha] at hk
        simp only [cond_false] at hk
        split at hk
        ·rename_i v hv
         refine Zag.of (v:= .val v) (s:=Instr.field s (a.eval x) f) rfl (fun w hw=>?_) hk
         rw [hag.ev hx]
         exact Zhk hu hf hd ha hv
        ·exact hk.elim
   ·exact hk.elim
  ·exact hk.elim
theorem ZbI (hag:Agr c.n e a) {t:TypeId} {x i:Operand} (hk:opP c (.indexAddr t x i) e h K):Zag c ⟨dst,.indexAddr t x i,type,pos,after,guard⟩ a h K:=by
  simp only [opP] at hk
  split at hk
  ·rename_i el p l m k n hu hx hi
   split at hk
   ·rename_i size bytes hs
    obtain ⟨b,o,rfl,h0,h1,hk⟩:=hk
    obtain ⟨inf,hinf,hsz,_⟩:=ZaS hs
    refine Zag.of (s:=Instr.indexAt t (a.eval x) (a.eval i)) rfl (fun w hw=>?_) hk
    rw [hag.ev hx,hag.ev hi]
    exact Zd6 hu hinf hsz h0 h1
   ·exact hk.elim
  ·rename_i n el v k j hu hx hi
   split at hk
   ·rename_i size bytes hs
    obtain ⟨b,o,hp,hk⟩:=Zc3 hk
    obtain ⟨h0,h1,hk⟩:=hk
    obtain ⟨inf,hinf,hsz,_⟩:=ZaS hs
    refine Zag.of (s:=Instr.indexAt t (a.eval x) (a.eval i)) rfl (fun w hw=>?_) hk
    rw [hag.ev hx,hag.ev hi,hp]
    exact Zd7 hu hinf hsz h0 h1
   ·exact hk.elim
  ·exact hk.elim
theorem ZfO {d:Option TypeDesc} {v:Value} {K:EV→Prop} (hk:Zkn d v K):∃ u:EV,u.v=v∧K u:=by
  unfold Zkn at hk
  split at hk<;>first
    | exact hk.elim
    | (obtain ⟨x,hx,hK⟩:=hk;refine ⟨_,?_,hK⟩;exact hx.symm)
theorem ZdV {P:Program} {t:TypeId} {v:Value} {K:EV→Prop} (hk:ZpS P t v K):∃ u:EV,u.v=v∧K u:=by
  unfold ZpS at hk
  cases hb:Xd (P.underlying t) with
  | true =>
    rw [hb] at hk
    obtain ⟨r,hr,hK⟩:=hk
    exact ⟨.val (.agg (Tup.vals _ r).toArray),hr.symm,hK⟩
  | false =>
    rw [hb] at hk
    exact ZfO hk
theorem Ze1 (hag:Agr c.n e a) {t:TypeId} {x i:Operand} (hk:opP c (.index t x i) e h K):Zag c ⟨dst,.index t x i,type,pos,after,guard⟩ a h K:=by
  simp only [opP] at hk
  split at hk
  ·rename_i s k n hu hx hi
   obtain ⟨y,h0,hy,hk⟩:=hk
   refine Zag.of (v:= .val (.int .u8 y.toNat)) (s:=Instr.index t (a.eval x) (a.eval i)) rfl (fun w hw=>?_) hk
   rw [hag.ev hx,hag.ev hi]
   exact Zeu hu h0 hy
  ·rename_i n el cs k j hu hx hi
   split at hk
   ·rename_i gs he
    obtain ⟨hl,hk⟩:=Xv hk
    obtain ⟨h0,h1,hk⟩:=hk
    obtain ⟨u,hu',hk⟩:=ZdV hk
    refine Zag.of (v:=u) (s:=Instr.index t (a.eval x) (a.eval i)) rfl (fun w hw=>?_) hk
    rw [hag.ev hx,hag.ev hi,hu']
    exact Zfb hu he h0 h1 (Nat.eq_of_beq_eq_true hl)
   ·exact hk.elim
  ·exact hk.elim
theorem Zdg (hag:Agr c.n e a) {x:Operand} {i:Nat} (hk:opP c (.extract x i) e h K):Zag c ⟨dst,.extract x i,type,pos,after,guard⟩ a h K:=by
  simp only [opP] at hk
  split at hk
  ·rename_i k' v' hx
   cases hb:Nat.beq i 0 with
   | false=>rw [hb] at hk;exact hk.elim
   | true =>
     rw [hb] at hk
     have hi:=Nat.eq_of_beq_eq_true hb
     subst hi
     refine Zag.of (v:= .lit true) (s:=Instr.extract (a.eval x) 0) rfl (fun w hw=>?_) hk
     rw [hag.ev hx]
     rfl
  ·rename_i hx
   cases hb:Nat.beq i 0 with
   | false=>rw [hb] at hk;exact hk.elim
   | true =>
     rw [hb] at hk
     have hi:=Nat.eq_of_beq_eq_true hb
     subst hi
     refine Zag.of (v:= .lit false) (s:=Instr.extract (a.eval x) 0) rfl (fun w hw=>?_) hk
     rw [hag.ev hx]
     rfl
  ·rename_i vs hx
   split at hk
   ·rename_i v hv
    refine Zag.of (v:= .val v) (s:=Instr.extract (a.eval x) i) rfl (fun w hw=>?_) hk
    rw [hag.ev hx]
    have hv':vs[i]?=some v:=by simpa using hv
    simp only [EV.v,Instr.extract,hv']
    rfl
   ·exact hk.elim
  ·exact hk.elim
theorem Z0 {P:Program} {w w':World} {ρ:Operand→Value} {b:Builtin} {args:Array Operand} {ts:Array TypeId} {v:Value} {s:Sem Value}
    (hb:∀ type consts,builtin b ts type consts (args.map ρ)=(do pure (.value (← s)))) (hr:s.run P w = .ok v w') :
    (execOp ρ ⟨dst,.call ⟨.builtin b,args,ts⟩,type,pos,after,guard⟩).run P w = .ok (.value v) w':=by
  simp only [execOp,resolve,Sem.run_bind,Sem.run_pure,Result.andThen_ok,invoke,hb,hr]
theorem XE (hag:Agr c.n e a) {args:Array Operand} {es:List EV} (h:evs e args.toList=some es):args.map a.eval=(es.map EV.v).toArray:=by
  apply Array.ext'
  simp [hag.evs h]
theorem ZH (hag:Agr c.n e a) {b:Builtin} {args:Array Operand} {ts:Array TypeId} (hb:(b = .len∧Zdd c.P ts=false)∨b = .cap∨b = .min∨b = .max) (hk:Zgd c (.call ⟨.builtin b,args,ts⟩) e h K) :
    Zag c ⟨dst,.call ⟨.builtin b,args,ts⟩,type,pos,after,guard⟩ a h K:=by
  rcases hb with ⟨rfl,hmt⟩ | rfl | rfl | rfl
  ·simp only [Zgd] at hk
   split at hk
   ·rename_i t v ht hv
    have hargs:=XE hag hv
    have key:∀ n:Int,(∀ w,(Builtin.len_ ts type #[v.v]).run c.P w = .ok (.int .i64 n) w)→K (.val (.int .i64 n)) h→Zag c ⟨dst,.call ⟨.builtin .len,args,ts⟩,type,pos,after,guard⟩ a h K:=by
      intro n hr hk
      refine ⟨.val (.int .i64 n),fun w _=>?_,hk⟩
      refine Z0 (s:=Builtin.len_ ts type #[v.v]) (fun ty cs=>?_) (hr w)
      rw [hargs];rfl
    split at hk
    ·rename_i s hu
     refine key _ (fun w=>?_) hk
     unfold Builtin.len_
     simp only [ht,EV.v,List.getElem?_toArray,List.getElem?_cons_zero,Sem.run_bind,Zb c.P w t hu,Result.andThen_ok]
     rfl
    ·rename_i el p n m hu
     refine key _ (fun w=>?_) hk
     unfold Builtin.len_
     simp only [ht,EV.v,List.getElem?_toArray,List.getElem?_cons_zero,Sem.run_bind,Zb c.P w t hu,Result.andThen_ok]
     rfl
    ·rename_i n el hu
     refine key _ (fun w=>?_) hk
     unfold Builtin.len_
     simp only [ht,List.getElem?_toArray,List.getElem?_cons_zero,Sem.run_bind,Zb c.P w t hu,Result.andThen_ok]
     rfl
    ·rename_i hu
     simp [Zdd,ht,hu] at hmt
    ·exact hk.elim
   ·exact hk.elim
  ·simp only [Zgd] at hk
   split at hk
   ·rename_i t v ht hv
    have hargs:=XE hag hv
    split at hk
    ·rename_i el p n m hu
     refine ⟨.val (.int .i64 m),fun w _=>?_,hk⟩
     refine Z0 (s:=Builtin.cap_ ts type #[.slice p n m]) (fun ty cs=>?_) ?_
     ·rw [hargs];rfl
     ·unfold Builtin.cap_
      simp only [ht,List.getElem?_toArray,List.getElem?_cons_zero,Sem.run_bind,Zb c.P w t hu,Result.andThen_ok]
      rfl
    ·exact hk.elim
   ·exact hk.elim
  ·simp only [Zgd] at hk
   split at hk
   ·rename_i k x k' y hv
    have hargs:=XE hag hv
    refine ⟨.val (.int k (Zsf x y)),fun w _=>?_,hk⟩
    refine Z0 (s:=Builtin.min_ ts type #[.int k x,.int k' y]) (fun ty cs=>?_) ?_
    ·rw [hargs];rfl
    ·unfold Builtin.min_
     simp [Builtin.min2,Zsf,EV.v]
   ·exact hk.elim
  ·simp only [Zgd] at hk
   split at hk
   ·rename_i k x k' y hv
    have hargs:=XE hag hv
    refine ⟨.val (.int k (ZoF x y)),fun w _=>?_,hk⟩
    refine Z0 (s:=Builtin.max_ ts type #[.int k x,.int k' y]) (fun ty cs=>?_) ?_
    ·rw [hargs];rfl
    ·unfold Builtin.max_
     simp [Builtin.max2,ZoF,EV.v]
   ·exact hk.elim
theorem Zly (hag:Agr c.n e a) {args:Array Operand} {ts:Array TypeId} (hk:Zgd c (.call ⟨.builtin .len,args,ts⟩) e h K) :
    Zjx c ⟨dst,.call ⟨.builtin .len,args,ts⟩,type,pos,after,guard⟩ a h K:=by
  cases hm:Zdd c.P ts with
  | false=>exact (ZH hag (.inl ⟨rfl,hm⟩) hk).q
  | true =>
    simp only [Zgd] at hk
    split at hk
    ·rename_i t v ht hv
     have hargs:=XE hag hv
     split at hk
     ·rename_i s hu
      simp [Zdd,ht,hu] at hm
     ·rename_i el p n m hu
      simp [Zdd,ht,hu] at hm
     ·rename_i n el hu
      simp [Zdd,ht,hu] at hm
     ·rename_i kt et m hu
      have key:∀ n:Int,(∀ w:World,w.heap=h→(Builtin.len_ ts type #[.map m]).run c.P w = .ok (.int .i64 n) w)→K (.val (.int .i64 n)) h→Zjx c ⟨dst,.call ⟨.builtin .len,args,ts⟩,type,pos,after,guard⟩ a h K:=by
        intro n hr hk
        refine ⟨.val (.int .i64 n),fun w hw=>?_,hk⟩
        refine Z0 (s:=Builtin.len_ ts type #[.map m]) (fun ty cs=>?_) (hr w hw)
        rw [hargs];rfl
      cases m with
      | none =>
        refine key 0 (fun w _=>?_) (hk.1 rfl)
        unfold Builtin.len_
        simp only [ht,List.getElem?_toArray,List.getElem?_cons_zero,Sem.run_bind,Zb c.P w t hu,Result.andThen_ok]
        rfl
      | some b =>
        obtain ⟨es,cl,hb,hk⟩:=hk.2 b rfl
        refine key _ (fun w hw=>?_) hk
        subst hw
        unfold Builtin.len_
        simp only [ht,List.getElem?_toArray,List.getElem?_cons_zero,Sem.run_bind,Zb c.P w t hu,Result.andThen_ok,MapKept.run_getObj_map hb]
        rfl
     ·exact hk.elim
    ·exact hk.elim
theorem Zdq {d:TypeDesc} {k:Value} (h:Zmq d k=true):MapKept.IsKey d k:=by
  unfold Zmq at h
  split at h
  ·split at h
   ·rename_i hk;subst hk;rfl
   ·cases h
  ·trivial
  ·trivial
  ·cases h
theorem ZkE {P:Program} {t kt et:TypeId} {d:TypeDesc} {m:Option Nat} {k z:Value} {inf:TypeInfo} {h:Zc} {K:Option Value→Prop} (hu:P.underlying t=some (.map kt et)) (hd:P.underlying kt=some d) (hkey:Zmq d k=true)
    (hinf:P.info? et=some inf) (hiz:inf.zero=some z) (hk:ZoH d h m k K) :
    ∃ r:Option Value,(∀ (ok:Bool) (w:World),w.heap=h→(Instr.lookup t (.map m) k ok).run P w = .ok (if ok then .tuple #[r.getD z,.bool r.isSome] else r.getD z) w)∧K r:=by
  have hz:∀ w:World,(zeroValue et).run P w = .ok z w:=fun w=>Yw P w et hinf hiz
  cases m with
  | none =>
    refine ⟨none,fun ok w hw=>?_,hk.1 rfl⟩
    unfold Instr.lookup
    have hf:(Instr.findKey kt k []).run P w = .ok none w:=MapKept.run_findKey hd rfl
    simp only [Sem.run_bind,Zb P w t hu,Result.andThen_ok,Sem.run_pure,MapKept.run_checkKey hd (Zdq hkey),hf,hz]
    rfl
  | some b =>
    obtain ⟨es,cl,r,hb,hfn,hk⟩:=hk.2 b rfl
    refine ⟨r.map (·.2),fun ok w hw=>?_,hk⟩
    subst hw
    unfold Instr.lookup
    have hf:(Instr.findKey kt k es.toList).run P w = .ok r w:=MapKept.run_findKey hd hfn
    simp only [Sem.run_bind,Zb P w t hu,Result.andThen_ok,MapKept.run_getObj_map hb,Sem.run_pure,MapKept.run_checkKey hd (Zdq hkey),hf]
    cases r with
    | none=>simp only [Sem.run_bind,hz,Result.andThen_ok];rfl
    | some x=>rfl
theorem ZkD {P:Program} {t kt et:TypeId} {d:TypeDesc} {m:Option Nat} {k v:Value} {w:World} {K:Zc→Prop} (hu:P.underlying t=some (.map kt et)) (hd:P.underlying kt=some d) (hkey:Zmq d k=true)
    (hk:ZoG d w.heap m k v K):∃ w',(Instr.mapUpdate t (.map m) k v).run P w = .ok () w'∧Same w w'∧K w'.heap:=by
  obtain ⟨b,es,cl,r,rfl,hb,hks,hfn,hk⟩:=hk
  refine ⟨{ w with heap:=w.heap.setIfInBounds b (Zrf es cl k v r)},?_,⟨rfl,rfl,rfl⟩,hk⟩
  unfold Instr.mapUpdate
  have hf:(Instr.findKey kt k es.toList).run P w = .ok r w:=MapKept.run_findKey hd hfn
  simp only [Sem.run_bind,Zb P w t hu,Result.andThen_ok,MapKept.run_getObj_map hb,MapKept.run_checkKey hd (Zdq hkey),hf]
  rcases MapKept.findNow_spec (Zdq hkey) es.toList 0 hks with ⟨h1,_⟩ | ⟨j,e0,h1,h2,h3⟩
  ·rw [hfn] at h1
   cases h1
   exact MapKept.run_setObj_map _ hb
  ·rw [hfn] at h1
   cases h1
   have hkk:(Instr.keyThatStays (((es[0+j]?).map (·.key)).getD k) k).run P w = .ok k w:=by
     have h2':es[0+j]?=some e0:=by rw [Nat.zero_add];simpa using h2
     rw [h2']
     simp only [Option.map_some,Option.getD_some,h3]
     unfold Instr.keyThatStays
     have hs:Instr.sameBits 10000 k k=true:=by
       unfold Zmq at hkey
       split at hkey<;>first
         | (simp [Instr.sameBits];done)
         | (exact (MapKept.bytes_beq _ _).2 rfl)
         | cases hkey
     rw [if_pos hs]
     rfl
   simp only [Sem.run_bind,hkk,Result.andThen_ok]
   exact MapKept.run_setObj_map _ hb
theorem Zfr {d:TypeDesc} {v w:Value} (hv:MapKept.IsKey d v) (hw:MapKept.IsKey d w):ZbZ (some d) v w=some (Zdc v w):=by
  cases d<;>cases v<;>cases w<;>first
    | exact hv.elim
    | exact hw.elim
    | rfl
    | skip
  rename_i k k1 n1 k2 n2
  have h1:k1=k:=hv
  have h2:k2=k:=hw
  subst h1
  subst h2
  simp [ZbZ,Zdc]
theorem ZhF {P:Program} {t:TypeId} (h:Zga (P.underlying t)=true):P.underlying t=some ((P.underlying t).getD .bool):=by
  cases hu:P.underlying t with
  | none=>rw [hu] at h;cases h
  | some d=>rfl
theorem ZdR {P:Program}:∀ {fs:List Field} {i:Nat} {xs ys:List Value},ZcM P fs i=true→YC (ZcN P fs) (xs.drop i)→YC (ZcN P fs) (ys.drop i) →
    Za9 P fs xs ys=some (Za5 (xs.drop i) (ys.drop i))
  | [],i,xs,ys,_,hx,hy=>by
    cases hxs:xs.drop i with
    | cons a l=>rw [hxs] at hx;exact hx.elim
    | nil=>cases hys:ys.drop i with
      | cons a l=>rw [hys] at hy;exact hy.elim
      | nil=>rfl
  | f::fs,i,xs,ys,hf,hx,hy=>by
    simp only [ZcM] at hf
    cases hn:(f.name == "_") with
    | true=>rw [hn] at hf;cases hf
    | false =>
      rw [hn] at hf
      simp only [cond_false] at hf
      cases hb:(Nat.beq f.offset i&&Zga (P.underlying f.type)) with
      | false=>rw [hb] at hf;cases hf
      | true =>
        rw [hb] at hf
        simp only [cond_true] at hf
        simp only [Bool.and_eq_true] at hb
        have ho:=Nat.eq_of_beq_eq_true hb.1
        cases hxs:xs.drop i with
        | nil=>rw [hxs] at hx;exact hx.elim
        | cons a l =>
          cases hys:ys.drop i with
          | nil=>rw [hys] at hy;exact hy.elim
          | cons b m =>
            rw [hxs] at hx
            rw [hys] at hy
            have hx0:xs[f.offset]?=some a:=by rw [ho];have:=congrArg (fun l=>l[0]?) hxs;simpa using this
            have hy0:ys[f.offset]?=some b:=by rw [ho];have:=congrArg (fun l=>l[0]?) hys;simpa using this
            have hxd:xs.drop (i+1)=l:=by rw [← List.drop_drop,hxs];rfl
            have hyd:ys.drop (i+1)=m:=by rw [← List.drop_drop,hys];rfl
            have ih:=ZdR (P:=P) (fs:=fs) (i:=i+1) (xs:=xs) (ys:=ys) hf (by rw [hxd];exact hx.2) (by rw [hyd];exact hy.2)
            have hl:ZbZ (P.underlying f.type) a b=some (Zdc a b):=by
              rw [ZhF hb.2]
              exact Zfr hx.1 hy.1
            simp only [Za9,hn,cond_false,hx0,hy0,hl,ih,hxd,hyd,Za5]
theorem Zhy:∀ {ds:List TypeDesc} {vs:List Value},Zmp ds vs=true→YC ds vs
  | [],[],_=>trivial
  | d::ds,v::vs,h=>by
    simp only [Zmp] at h
    cases hb:Zmq d v with
    | false=>rw [hb] at h;cases h
    | true=>rw [hb] at h;exact ⟨Zdq hb,Zhy h⟩
  | [],_::_,h=>by cases h
  | _::_,[],h=>by cases h
theorem ZgN {P:Program} {kt:TypeId} {fs:Array Field} {cs:List Value} (h:Zn4 P kt fs cs=true):P.stoodInHeld kt=false∧ZcM P fs.toList 0=true∧YC (ZcN P fs.toList) cs:=by
  unfold Zn4 at h
  cases h1:P.stoodInHeld kt with
  | true=>rw [h1] at h;cases h
  | false =>
    rw [h1] at h
    cases h2:ZcM P fs.toList 0 with
    | false=>rw [h2] at h;cases h
    | true=>rw [h2] at h;exact ⟨rfl,rfl,Zhy h⟩
theorem Zhm {P:Program} {w:World} {kt:TypeId} {fs:Array Field} {cs:List Value} (hd:P.underlying kt=some (.struct fs)) (hf:ZcM P fs.toList 0=true) (hk:YC (ZcN P fs.toList) cs) (e:Bool) (n:Nat) :
    (Instr.checkKey e (n+1+1) kt (.agg cs.toArray)).run P w = .ok () w:=by
  unfold Instr.checkKey
  simp only [Sem.run_bind,Zb P w kt hd,Result.andThen_ok]
  rw [← Array.forIn_toList]
  have key:∀ (fs:List Field) (i:Nat),ZcM P fs i=true→YC (ZcN P fs) (cs.drop i) →
      (forIn fs PUnit.unit fun f _=>(do
        if f.name≠ "_" then Instr.checkKey e (n+1) f.type (← part f.type cs.toArray f.offset)
        pure (ForInStep.yield PUnit.unit):Sem (ForInStep PUnit))).run P w = .ok PUnit.unit w:=by
    intro fs
    induction fs with
    | nil=>intro i _ _;simp
    | cons f fs ih =>
      intro i hf hk
      simp only [ZcM] at hf
      cases hn:(f.name == "_") with
      | true=>rw [hn] at hf;cases hf
      | false =>
        rw [hn] at hf
        simp only [cond_false] at hf
        have hne:f.name≠ "_" :=by
          intro he
          rw [he] at hn
          simp at hn
        cases hb:(Nat.beq f.offset i&&Zga (P.underlying f.type)) with
        | false=>rw [hb] at hf;cases hf
        | true =>
          rw [hb] at hf
          simp only [cond_true] at hf
          simp only [Bool.and_eq_true] at hb
          have ho:=Nat.eq_of_beq_eq_true hb.1
          cases hxs:cs.drop i with
          | nil=>rw [hxs] at hk;exact hk.elim
          | cons a l =>
            rw [hxs] at hk
            have hx0:cs.toArray[f.offset]?=some a:=by rw [ho];have:=congrArg (fun l=>l[0]?) hxs;simpa using this
            have hxd:cs.drop (i+1)=l:=by rw [← List.drop_drop,hxs];rfl
            have hu:=ZhF hb.2
            have h1:Xd (P.underlying f.type)=false:=by
              have:=hb.2
              unfold Zga at this
              split at this<;>first
                | (rename_i h;rw [h];rfl)
                | cases this
            have hp:=Xs (P:=P) (w:=w) (t:=f.type) (xs:=cs.toArray) (off:=f.offset) h1 (by rw [hu];rfl) hx0
            have hc:=MapKept.run_checkKey (P:=P) (w:=w) hu hk.1 e n
            have:=ih (i+1) hf (by rw [hxd];exact hk.2)
            simp only [ne_eq] at this
            simp only [List.forIn_cons,ne_eq,hne,not_false_eq_true,if_true,Sem.run_bind,hp,Result.andThen_ok,hc,Sem.run_pure]
            exact this
  have:=key fs.toList 0 hf (by simpa using hk)
  simp only [this,Result.andThen_ok,Sem.run_pure]
theorem Zh9 {P:Program} {w:World} {kt:TypeId} {fs:Array Field} {xs ys:List Value} (hd:P.underlying kt=some (.struct fs)) (hs:P.stoodInHeld kt=false) (hf:ZcM P fs.toList 0=true)
    (hx:YC (ZcN P fs.toList) xs) (hy:YC (ZcN P fs.toList) ys):(Op.equal kt (.agg xs.toArray) (.agg ys.toArray)).run P w = .ok (Za5 xs ys) w:=by
  have hfo:P.fieldsOf kt=fs:=by unfold Program.fieldsOf;rw [hd]
  unfold Op.equal Op.maxDepth
  rw [show (10000:Nat)=9998+1+1 from rfl,run_equalIn_agg w _ kt _ _ (by rw [hfo];exact hd) hs,hfo]
  have:=ZdR (P:=P) (fs:=fs.toList) (i:=0) (xs:=xs) (ys:=ys) hf (by simpa using hx) (by simpa using hy)
  exact Zb1 (xs:=xs.toArray) (ys:=ys.toArray) this
structure Zg1 (P:Program) (kt:TypeId) (d:TypeDesc) (ds:List TypeDesc):Prop where
  und:P.underlying kt=some d
  chk:∀ {cs:List Value},YC ds cs→∀ (e:Bool) (n:Nat) (w:World),(Instr.checkKey e (n+1+1) kt (.agg cs.toArray)).run P w = .ok () w
  eq:∀ {xs ys:List Value},YC ds xs→YC ds ys→∀ w:World,(Op.equal kt (.agg xs.toArray) (.agg ys.toArray)).run P w = .ok (Za5 xs ys) w
  now:∀ (x:Array Value) (y:Value),Instr.sameNow d (.agg x) y=none
theorem Zm4 {P:Program} {kt:TypeId} {fs:Array Field} (hd:P.underlying kt=some (.struct fs)) (hs:P.stoodInHeld kt=false) (hf:ZcM P fs.toList 0=true):Zg1 P kt (.struct fs) (ZcN P fs.toList) :=
  ⟨hd,fun hl e n w=>Zhm hd hf hl e n,fun hx hy w=>Zh9 hd hs hf hx hy,fun x y=>by unfold Instr.sameNow;rfl⟩
theorem Zm0 {b A:Bool} (h:(bif b then A else false)=true):b=true∧A=true:=by
  cases b with
  | true=>exact ⟨rfl,h⟩
  | false=>cases h
theorem ZgO {P:Program} {n:Nat} {e:TypeId} {cs:List Value} (h:Zn5 P n e cs=true):n=2∧Zga (P.underlying e)=true∧(∃ i,P.info? e=some i∧i.size=1)∧YC [(P.underlying e).getD .bool,(P.underlying e).getD .bool] cs:=by
  unfold Zn5 at h
  obtain ⟨h1,h⟩:=Zm0 h
  obtain ⟨h2,h⟩:=Zm0 h
  cases hi:P.info? e with
  | none=>rw [hi] at h;cases h
  | some i =>
    rw [hi] at h
    obtain ⟨h3,h⟩:=Zm0 h
    exact ⟨Nat.eq_of_beq_eq_true h1,h2,⟨i,rfl,Nat.eq_of_beq_eq_true h3⟩,Zhy h⟩
theorem Zk7 {d:Option TypeDesc} (h:Zga d=true):Xd d=false:=by
  unfold Zga at h
  split at h<;>first
    | rfl
    | cases h
theorem ZlD {ds:TypeDesc} {cs:List Value} (h:YC [ds,ds] cs):∃ a b,cs=[a,b]∧MapKept.IsKey ds a∧MapKept.IsKey ds b:=by
  match cs,h with
  | [a,b],⟨h1,h2,_⟩=>exact ⟨a,b,rfl,h1,h2⟩
  | [],h=>exact h.elim
  | [_],⟨_,h⟩=>exact h.elim
  | _::_::_::_,⟨_,_,h⟩=>exact h.elim
theorem Zm5 {P:Program} {kt el:TypeId} (hd:P.underlying kt=some (.array 2 el)) (hf:Zga (P.underlying el)=true) (hi:∃ i,P.info? el=some i∧i.size=1) :
    Zg1 P kt (.array 2 el) [(P.underlying el).getD .bool,(P.underlying el).getD .bool]:=by
  obtain ⟨i,hi,h1⟩:=hi
  have hu:=ZhF hf
  have hs:∀ w:World,(sizeOf el).run P w = .ok 1 w:=fun w=>by rw [Ye P w el hi,h1]
  have pt:∀ (xs:Array Value) (off:Nat) (x:Value) (w:World),xs[off]?=some x→(part el xs off).run P w = .ok x w:=fun xs off x w hx=>Xs (Zk7 hf) (by rw [hu];rfl) hx
  refine ⟨hd,fun {cs} hl e n w=>?_,fun {xs ys} hx hy w=>?_,fun x y=>by unfold Instr.sameNow;rfl⟩
  ·obtain ⟨a,b,rfl,ha,hb⟩:=ZlD hl
   have ca:=MapKept.run_checkKey (P:=P) (w:=w) hu ha e n
   have cb:=MapKept.run_checkKey (P:=P) (w:=w) hu hb e n
   have pa:=pt #[a,b] 0 a w rfl
   have pb:=pt #[a,b] 1 b w rfl
   unfold Instr.checkKey
   simp only [Sem.run_bind,Zb P w kt hd,Result.andThen_ok,Std.Legacy.Range.forIn_eq_forIn_range',Std.Legacy.Range.size,Nat.sub_zero,Nat.add_sub_cancel,Nat.div_one,List.range',List.forIn_cons,List.forIn_nil,hs,Nat.zero_mul,Nat.one_mul,Nat.mul_one,Nat.zero_add,pa,pb,ca,cb,Sem.run_pure]
  ·obtain ⟨a,b,rfl,ha,hb⟩:=ZlD hx
   obtain ⟨c,d,rfl,hc,hd'⟩:=ZlD hy
   have e1:ZbZ (P.underlying el) a c=some (Zdc a c):=by rw [hu];exact Zfr ha hc
   have e2:ZbZ (P.underlying el) b d=some (Zdc b d):=by rw [hu];exact Zfr hb hd'
   have q1:=(ZbY (d:=9998) (w:=w) e1).2.2
   have q2:=(ZbY (d:=9998) (w:=w) e2).2.2
   have pa:=pt #[a,b] 0 a w rfl
   have pb:=pt #[a,b] 1 b w rfl
   have pc:=pt #[c,d] 0 c w rfl
   have pd:=pt #[c,d] 1 d w rfl
   unfold Op.equal Op.maxDepth
   rw [show (10000:Nat)=9998+1+1 from rfl]
   unfold Op.equalIn
   simp only [Sem.run_bind,Zb P w kt hd,Result.andThen_ok,Std.Legacy.Range.forIn_eq_forIn_range',Std.Legacy.Range.size,Nat.sub_zero,Nat.add_sub_cancel,Nat.div_one,List.range',List.forIn_cons,List.forIn_nil,hs,Nat.zero_mul,Nat.one_mul,Nat.mul_one,Nat.zero_add,pa,pb,pc,pd,q1,Sem.run_pure,Za5]
   cases Zdc a c<;>simp only [Bool.not_true,Bool.not_false,Bool.false_eq_true,if_true,if_false,Sem.run_bind,Sem.run_pure,Result.andThen_ok,cond_true,cond_false,pb,pd,q2]
   cases Zdc b d<;>simp [Sem.run_pure]
theorem Zda {P:Program} {w:World} {kt:TypeId} {d:TypeDesc} {ds:List TypeDesc} {k:List Value} (hA:Zg1 P kt d ds)
    (hk:YC ds k):∀ (l:List MapEntry) (i:Nat),(∀ x,x∈l→ZeP ds x.key)→(Instr.findAsking kt (.agg k.toArray) l i).run P w = .ok (ZfC k l i) w
  | [],i,_=>rfl
  | e::l,i,h=>by
    obtain ⟨cs,hcs,hl⟩:=h e (.head _)
    have he:=hA.eq hk hl w
    have ih:=Zda (w:=w) hA hk l (i+1) (fun x hx=>h x (.tail _ hx))
    unfold Instr.findAsking
    have ha:Zlh k e.key=Za5 k cs:=by rw [hcs];simp [Zlh]
    rw [hcs]
    simp only [Sem.run_bind,he,Result.andThen_ok,ZfC,ha]
    cases Za5 k cs with
    | true=>simp
    | false=>simpa using ih
theorem Zco {P:Program} {w:World} {kt:TypeId} {d:TypeDesc} {ds:List TypeDesc} {k:List Value} (hA:Zg1 P kt d ds)
    (hk:YC ds k) (l:List MapEntry) (h:∀ x,x∈l→ZeP ds x.key):(Instr.findKey kt (.agg k.toArray) l).run P w = .ok (ZfC k l 0) w:=by
  unfold Instr.findKey
  simp only [Sem.run_bind,Zb P w kt hA.und,Result.andThen_ok]
  cases l with
  | nil=>rfl
  | cons e l =>
    have:Instr.findNow d (.agg k.toArray) (e::l) 0=none:=by
      unfold Instr.findNow
      rw [hA.now]
    rw [this]
    exact Zda hA hk (e::l) 0 h
theorem Zc9:∀ {ds:List TypeDesc} {xs ys:List Value} (n:Nat),YC ds xs→YC ds ys→Za5 xs ys=true→xs=ys
  | [],[],[],_,_,_,_=>rfl
  | d::ds,x::xs,y::ys,n,hx,hy,h=>by
    simp only [Za5] at h
    cases hb:Zdc x y with
    | false=>rw [hb] at h;cases h
    | true =>
      rw [hb] at h
      have:x=y:=by
        have h1:=hx.1
        have h2:=hy.1
        cases d<;>cases x<;>cases y<;>first
          | exact h1.elim
          | exact h2.elim
          | skip
        all_goals simp only [Zdc,Zbd,MapKept.IsKey,beq_iff_eq] at hb h1 h2
        all_goals first
          | (subst hb;rfl)
          | (subst h1;subst h2;subst hb;rfl)
          | (congr 1;exact (MapKept.bytes_beq _ _).1 ((beq_toListBytes _ _).trans (by simpa using hb)))
      rw [this,Zc9 n hx.2 hy.2 h]
  | [],[],_::_,_,_,hy,_=>hy.elim
  | [],_::_,_,_,hx,_,_=>hx.elim
  | _::_,[],_,_,hx,_,_=>hx.elim
  | _::_,_::_,[],_,_,hy,_=>hy.elim
theorem ZgQ {k:List Value}:∀ {l:List MapEntry} {i j:Nat} {v:Value},ZfC k l i=some (j,v)→∃ m e,j=i+m∧l[m]?=some e∧e.val=v∧Zlh k e.key=true
  | e::l,i,j,v,h=>by
    simp only [ZfC] at h
    cases hb:Zlh k e.key with
    | true =>
      rw [hb] at h
      simp only [cond_true,Option.some.injEq,Prod.mk.injEq] at h
      exact ⟨0,e,h.1.symm,rfl,h.2,hb⟩
    | false =>
      rw [hb] at h
      obtain ⟨m,e',h1,h2,h3,h4⟩:=ZgQ (l:=l) (i:=i+1) h
      exact ⟨m+1,e',by omega,h2,h3,h4⟩
theorem Zhh:∀ {ds:List TypeDesc} {xs:List Value},YC ds xs→Instr.sameBits 10000 (.agg xs.toArray) (.agg xs.toArray)=true:=by
  intro ds xs h
  have key:∀ (ds:List TypeDesc) (xs:List Value),YC ds xs→((xs.zip xs).all fun (x,y)=>Instr.sameBits 9999 x y)=true:=by
    intro ds
    induction ds with
    | nil=>intro xs h;cases xs with
      | nil=>rfl
      | cons _ _=>exact h.elim
    | cons d ds ih =>
      intro xs h
      cases xs with
      | nil=>exact h.elim
      | cons x xs =>
        simp only [List.zip_cons_cons,List.all_cons,Bool.and_eq_true]
        refine ⟨?_,ih xs h.2⟩
        have h1:=h.1
        cases d<;>cases x<;>first
          | exact h1.elim
          | (simp [Instr.sameBits];done)
          | exact (MapKept.bytes_beq _ _).2 rfl
  show (xs.toArray.size ==xs.toArray.size&&(xs.toArray.toList.zip xs.toArray.toList).all fun (x,y)=>Instr.sameBits 9999 x y)=true
  rw [Bool.and_eq_true]
  exact ⟨by simp,key ds xs h⟩
theorem Zfa {P:Program} {t kt et:TypeId} {d:TypeDesc} {ds:List TypeDesc} {m:Option Nat} {k:List Value} {z:Value} {inf:TypeInfo} {h:Zc} {K:Option Value→Prop} (hu:P.underlying t=some (.map kt et)) (hA:Zg1 P kt d ds) (hl:YC ds k)
    (hinf:P.info? et=some inf) (hiz:inf.zero=some z) (hk:Zjf ds h m k K) :
    ∃ r:Option Value,(∀ (ok:Bool) (w:World),w.heap=h→(Instr.lookup t (.map m) (.agg k.toArray) ok).run P w = .ok (if ok then .tuple #[r.getD z,.bool r.isSome] else r.getD z) w)∧K r:=by
  have hz:∀ w:World,(zeroValue et).run P w = .ok z w:=fun w=>Yw P w et hinf hiz
  have hck:∀ (w:World) (e:Bool),(Instr.checkKey e 10000 kt (.agg k.toArray)).run P w = .ok () w:=fun w e=>hA.chk hl e 9998 w
  cases m with
  | none =>
    refine ⟨none,fun ok w hw=>?_,hk.1 rfl⟩
    unfold Instr.lookup
    have hf0:(Instr.findKey kt (.agg k.toArray) []).run P w = .ok none w:=Zco hA hl [] (fun x hx=>by cases hx)
    simp only [Sem.run_bind,Zb P w t hu,Result.andThen_ok,Sem.run_pure,hck,hf0,hz]
    rfl
  | some b =>
    obtain ⟨es,cl,hb,hks,hk⟩:=hk.2 b rfl
    refine ⟨_,fun ok w hw=>?_,hk⟩
    subst hw
    unfold Instr.lookup
    have hf0:=Zco (P:=P) (w:=w) hA hl es.toList hks
    simp only [Sem.run_bind,Zb P w t hu,Result.andThen_ok,MapKept.run_getObj_map hb,Sem.run_pure,hck,hf0]
    cases ZfC k es.toList 0 with
    | none=>simp only [Sem.run_bind,hz,Result.andThen_ok];rfl
    | some x=>rfl
theorem Ze9 {P:Program} {t kt et:TypeId} {d:TypeDesc} {ds:List TypeDesc} {m:Option Nat} {k:List Value} {v:Value} {w:World} {K:Zc→Prop} (hu:P.underlying t=some (.map kt et)) (hA:Zg1 P kt d ds) (hl:YC ds k)
    (hk:Zjd ds w.heap m k v K):∃ w',(Instr.mapUpdate t (.map m) (.agg k.toArray) v).run P w = .ok () w'∧Same w w'∧K w'.heap:=by
  obtain ⟨b,es,cl,rfl,hb,hks,hk⟩:=hk
  refine ⟨{ w with heap:=w.heap.setIfInBounds b (Zrf es cl (.agg k.toArray) v (ZfC k es.toList 0))},?_,⟨rfl,rfl,rfl⟩,hk⟩
  unfold Instr.mapUpdate
  have hck:(Instr.checkKey false 10000 kt (.agg k.toArray)).run P w = .ok () w:=hA.chk hl false 9998 w
  have hf0:=Zco (P:=P) (w:=w) hA hl es.toList hks
  simp only [Sem.run_bind,Zb P w t hu,Result.andThen_ok,MapKept.run_getObj_map hb,hck,hf0]
  cases hfa:ZfC k es.toList 0 with
  | none=>exact MapKept.run_setObj_map _ hb
  | some jv =>
    obtain ⟨j,u⟩:=jv
    obtain ⟨m,e0,h1,h2,h3,h4⟩:=ZgQ hfa
    rw [Nat.zero_add] at h1
    subst h1
    have h2':es[j]?=some e0:=by simpa using h2
    obtain ⟨cs,hcs,hlc⟩:=hks e0 (List.mem_of_getElem? h2)
    have heq:k=cs:=Zc9 0 hl hlc (by rw [hcs] at h4;simpa [Zlh] using h4)
    have hkk:(Instr.keyThatStays (((es[j]?).map (·.key)).getD (.agg k.toArray)) (.agg k.toArray)).run P w = .ok (.agg k.toArray) w:=by
      rw [h2']
      simp only [Option.map_some,Option.getD_some,hcs,← heq]
      unfold Instr.keyThatStays
      rw [if_pos (Zhh hl)]
      rfl
    simp only [Sem.run_bind,hkk,Result.andThen_ok]
    exact MapKept.run_setObj_map _ hb
theorem ZiY {P:Program} {t kt et:TypeId} {d:TypeDesc} {m:Option Nat} {k z:Value} {inf:TypeInfo} {h:Zc} {K:Option Value→Prop} (hu:P.underlying t=some (.map kt et)) (hd:P.underlying kt=some d)
    (hinf:P.info? et=some inf) (hiz:inf.zero=some z) (hk:Zje P kt d h m k K) :
    ∃ r:Option Value,(∀ (ok:Bool) (w:World),w.heap=h→(Instr.lookup t (.map m) k ok).run P w = .ok (if ok then .tuple #[r.getD z,.bool r.isSome] else r.getD z) w)∧K r:=by
  unfold Zje at hk
  split at hk
  ·obtain ⟨hkey,hk⟩:=Xv hk
   obtain ⟨hs,hf,hl⟩:=ZgN hkey
   exact Zfa (k:=_) hu (Zm4 hd hs hf) hl hinf hiz hk
  ·obtain ⟨hkey,hk2⟩:=Xv hk
   obtain ⟨rfl,hf,hi,hl⟩:=ZgO hkey
   exact Zfa (k:=_) hu (Zm5 hd hf hi) hl hinf hiz hk2
  ·obtain ⟨hkey,hk⟩:=Xv hk
   exact ZkE hu hd hkey hinf hiz hk
theorem ZiX {P:Program} {t kt et:TypeId} {d:TypeDesc} {m:Option Nat} {k v:Value} {w:World} {K:Zc→Prop} (hu:P.underlying t=some (.map kt et)) (hd:P.underlying kt=some d)
    (hk:Zjc P kt d w.heap m k v K):∃ w',(Instr.mapUpdate t (.map m) k v).run P w = .ok () w'∧Same w w'∧K w'.heap:=by
  unfold Zjc at hk
  split at hk
  ·obtain ⟨hkey,hk⟩:=Xv hk
   obtain ⟨hs,hf,hl⟩:=ZgN hkey
   exact Ze9 (k:=_) hu (Zm4 hd hs hf) hl hk
  ·obtain ⟨hkey,hk2⟩:=Xv hk
   obtain ⟨rfl,hf,hi,hl⟩:=ZgO hkey
   exact Ze9 (k:=_) hu (Zm5 hd hf hi) hl hk2
  ·obtain ⟨hkey,hk⟩:=Xv hk
   exact ZkD hu hd hkey hk
theorem ZkF {P:Program} {t kt et ty:TypeId} {d:TypeDesc} {m:Option Nat} {k:Value} {ts:Array TypeId} {w:World} {K:Zc→Prop} (ht:ts[0]?=some t) (hu:P.underlying t=some (.map kt et)) (hd:P.underlying kt=some d) (hkey:Zmq d k=true)
    (hk:ZoI d w.heap m k K):∃ w',(Builtin.delete_ ts ty #[.map m,k]).run P w = .ok (.tuple #[]) w'∧Same w w'∧K w'.heap:=by
  cases m with
  | none =>
    refine ⟨w,?_,Same.refl w,hk.1 rfl⟩
    unfold Builtin.delete_
    simp only [ht,List.getElem?_toArray,List.getElem?_cons_zero,List.getElem?_cons_succ,Sem.run_bind,Zb P w t hu,Result.andThen_ok,MapKept.run_checkKey hd (Zdq hkey)]
    rfl
  | some b =>
    obtain ⟨es,cl,r,hb,hfn,hk⟩:=hk.2 b rfl
    refine ⟨{ w with heap:=w.heap.setIfInBounds b (ZsH es cl r)},?_,⟨rfl,rfl,rfl⟩,hk⟩
    unfold Builtin.delete_
    have hf:(Instr.findKey kt k es.toList).run P w = .ok r w:=MapKept.run_findKey hd hfn
    simp only [ht,List.getElem?_toArray,List.getElem?_cons_zero,List.getElem?_cons_succ,Sem.run_bind,Zb P w t hu,Result.andThen_ok,MapKept.run_getObj_map hb,MapKept.run_checkKey hd (Zdq hkey),hf]
    cases r with
    | none=>simp only [Sem.run_bind,MapKept.run_setObj_map _ hb,Result.andThen_ok];rfl
    | some x=>simp only [Sem.run_bind,MapKept.run_setObj_map _ hb,Result.andThen_ok];rfl
theorem ZkH {P:Program} {t kt et ty:TypeId} {m:Option Nat} {ts:Array TypeId} {w:World} {K:Zc→Prop} (ht:ts[0]?=some t) (hu:P.underlying t=some (.map kt et))
    (hk:ZsJ w.heap m K):∃ w',(Builtin.clear_ ts ty #[.map m]).run P w = .ok (.tuple #[]) w'∧Same w w'∧K w'.heap:=by
  cases m with
  | none =>
    refine ⟨w,?_,Same.refl w,hk.1 rfl⟩
    unfold Builtin.clear_
    simp only [ht,List.getElem?_toArray,List.getElem?_cons_zero,Sem.run_bind,Zb P w t hu,Result.andThen_ok]
    rfl
  | some b =>
    obtain ⟨es,cl,hb,hk⟩:=hk.2 b rfl
    refine ⟨{ w with heap:=w.heap.setIfInBounds b (.map #[] cl)},?_,⟨rfl,rfl,rfl⟩,hk⟩
    unfold Builtin.clear_
    simp only [ht,List.getElem?_toArray,List.getElem?_cons_zero,Sem.run_bind,Zb P w t hu,Result.andThen_ok,MapKept.run_getObj_map hb,MapKept.run_setObj_map _ hb]
    rfl
theorem ZkG {P:Program} {t el ty:TypeId} {q:Option Addr} {l m:Nat} {zs:List Value} {ts:Array TypeId} {w:World} {K:Zc→Prop} (ht:ts[0]?=some t) (hu:P.underlying t=some (.slice el)) (hz:Zes P el=some zs)
    (hk:ZsI ⟨q,l,m⟩ zs w.heap K):∃ w',(Builtin.clear_ ts ty #[.slice q l m]).run P w = .ok (.tuple #[]) w'∧Same w w'∧K w'.heap:=by
  rcases hk with ⟨h0,hk⟩ | ⟨h0,hk⟩ | ⟨b,o,hp,hf,ha,hk⟩
  ·dsimp only at h0
   subst h0
   refine ⟨w,?_,Same.refl w,hk⟩
   unfold Builtin.clear_
   simp only [ht,List.getElem?_toArray,List.getElem?_cons_zero,Sem.run_bind,Zb P w t hu,Result.andThen_ok]
   rfl
  ·dsimp only at h0
   subst h0
   refine ⟨w,?_,Same.refl w,hk⟩
   unfold Builtin.clear_
   simp only [ht,List.getElem?_toArray,List.getElem?_cons_zero,Sem.run_bind,Zb P w t hu,Result.andThen_ok]
   cases q<;>rfl
  ·dsimp only at hp hf ha hk
   subst hp
   obtain ⟨i,z,hi,hiz,rfl⟩:=XV hz
   cases l with
   | zero =>
     refine ⟨w,?_,Same.refl w,?_⟩
     ·unfold Builtin.clear_
      simp only [ht,List.getElem?_toArray,List.getElem?_cons_zero,Sem.run_bind,Zb P w t hu,Result.andThen_ok]
      rfl
     ·have e:YW z.cells.toList 0=[]:=rfl
      rw [e] at hk
      exact hk
   | succ l =>
     refine ⟨{ w with heap:=Zc.puts w.heap b o (YW z.cells.toList (l+1))},?_,⟨rfl,rfl,rfl⟩,hk⟩
     unfold Builtin.clear_
     have hst:=Zaq P b o (YW z.cells.toList (l+1)) 0 w (by simpa using hf) ha
     simp only [ht,List.getElem?_toArray,List.getElem?_cons_zero,Sem.run_bind,Zb P w t hu,Result.andThen_ok,Yw P w el hi hiz,Zem,hst]
     simp
theorem Zd5 {P:Program} {t:TypeId} {v:Value} {w:World} (h:ZbS (P.underlying t)=false):(Instr.makeInterface t v).run P w = .ok (.iface t v) w:=by
  unfold Instr.makeInterface
  cases hu:P.underlying t with
  | none=>rw [hu] at h;cases h
  | some d =>
    rw [hu] at h
    simp only [Sem.run_bind,Zb P w t hu,Result.andThen_ok]
    cases d<;>first
      | rfl
      | cases h
theorem Zf3 {P:Program} {t xt:TypeId} {v:Value} {w:World} (h:ZbS (P.underlying t)=false):(Instr.typeAssert (.iface t v) xt t false).run P w = .ok v w:=by
  unfold Instr.typeAssert
  cases hu:P.underlying t with
  | none=>rw [hu] at h;cases h
  | some d =>
    rw [hu] at h
    simp only [Sem.run_bind,Zb P w t hu,Result.andThen_ok]
    cases d<;>first
      | (simp only [if_true];rfl)
      | cases h
theorem ZpE (hc:c.OK) (hag:Agr c.n e a) {cl:Call} {next:Act→World→Prop} {Q:Exit→Act→World→Prop} (hp9:∀ v w',Same w w'→c.pan v w'.heap→Q (.panic [{ v,recovered:=false }]) a w') (hk:Zgd c (.call cl) e w.heap K)
    (hn:∀ v w',Same w w'→K v w'.heap→next (a.put dst v.v) w'):(⟨dst,.call cl,type,pos,after,guard⟩:Oper).wpIn (fen c.rnd) 0 c.P a w next Q:=by
  have hk0:=hk
  unfold Zgd at hk
  split at hk
  ·rename_i args ts ho
   cases ho
   exact (Zly hag hk0).val.wp hn
  ·rename_i args ts ho
   cases ho
   exact (ZH hag (.inr (.inl rfl)) hk0).val.wp hn
  ·rename_i args ts ho
   cases ho
   exact (ZH hag (.inr (.inr (.inl rfl))) hk0).val.wp hn
  ·rename_i args ts ho
   cases ho
   exact (ZH hag (.inr (.inr (.inr rfl))) hk0).val.wp hn
  ·
   rename_i args ts ho
   cases ho
   split at hk
   ·rename_i t ht hts
    split at hk
    ·rename_i el hu
     have hts':∀ u,ts[1]?=some u→∃ d,c.P.underlying u=some d∧∀ k,d≠ .int k:=by
       intro u h1
       simp only [h1] at hts
       split at hts
       ·cases hts
       ·rename_i d hne hd
        exact ⟨d,hd,fun k hk=>hne k hk⟩
       ·cases hts
     split at hk
     ·rename_i size bytes zs p n m p' n' m' hs hz hv
      have hargs:=XE hag hv
      obtain ⟨i,z,hi,hiz,rfl⟩:=XV hz
      obtain ⟨i',hi',rfl,rfl⟩:=ZaS hs
      rw [hi] at hi'
      cases hi'
      have hnew:∃ new,(∀ w':World,w'.heap=w.heap→(Builtin.firstCells i.size n' (.slice p' n' m')).run c.P w' = .ok new.toArray w')∧app el i.size i.bytes z.cells.toList ⟨p,n,m⟩ n' new w.heap fun s h'=>K (.val (.slice s.ptr s.len s.cap)) h':=by
        rcases hk with ⟨hp,hk⟩ | ⟨b,o,l,hp,hl,hh,hk⟩
        ·refine ⟨[],fun w' _=>?_,hk⟩
         simp only at hp
         rw [hp]
         cases p'<;>simp [Builtin.firstCells,loadCells,loadCellsFrom]
        ·refine ⟨l,fun w' hw=>?_,hk⟩
         simp only at hp hl
         rw [hp]
         simp only [Builtin.firstCells]
         rw [← hl]
         exact X0 c.P w' b o l (by rw [hw];exact hh)
      obtain ⟨new,hnew,hk⟩:=hnew
      obtain ⟨s',w',hr,hs',hk⟩:=Zgv (P:=c.P) (ts:=ts) (rt:=type) (s:=⟨p,n,m⟩) (x:= .slice p' n' m') ht hts' hu hi hiz rfl hnew hk
      refine Val.wp (K:=K) ⟨.val (.slice s'.ptr s'.len s'.cap),w',?_,hs',hk⟩ hn
      refine Z0 (s:=Builtin.append_ ts type #[.slice p n m,.slice p' n' m']) (fun ty cs=>?_) hr
      rw [hargs];rfl
     ·rename_i size bytes zs p n m s hs hz hv
      have hargs:=XE hag hv
      obtain ⟨i,z,hi,hiz,rfl⟩:=XV hz
      obtain ⟨i',hi',rfl,rfl⟩:=ZaS hs
      rw [hi] at hi'
      cases hi'
      have hnew:∀ w':World,w'.heap=w.heap→(Builtin.firstCells i.size s.size (.string s)).run c.P w' = .ok (YV s).toArray w':=by
        intro w' _
        simp only [Builtin.firstCells,Sem.run_pure]
        congr 1
        apply Array.ext'
        simp [YV]
      obtain ⟨s',w',hr,hs',hk⟩:=Zgv (P:=c.P) (ts:=ts) (rt:=type) (s:=⟨p,n,m⟩) (x:= .string s) ht hts' hu hi hiz rfl hnew hk
      refine Val.wp (K:=K) ⟨.val (.slice s'.ptr s'.len s'.cap),w',?_,hs',hk⟩ hn
      refine Z0 (s:=Builtin.append_ ts type #[.slice p n m,.string s]) (fun ty cs=>?_) hr
      rw [hargs];rfl
     ·exact hk.elim
    ·exact hk.elim
   ·exact hk.elim
  ·
   rename_i x args ts ho
   cases ho
   split at hk
   ·split at hk
    ·rename_i v es hx hv
     obtain ⟨f,cs,s,t,hvv,hp,hk⟩:=ZeL hk
     have hx':a.eval x=Value.func (.func f) #[] ⟨cs⟩:=(hag.ev hx).trans hvv
     have hall:(args.map a.eval)++(⟨cs⟩:Array Value)=((Zoi es cs).map EV.v).toArray:=by
       rw [XE hag hv]
       simp [Zoi,Function.comp_def,EV.v]
     obtain ⟨hmem,ht⟩:=Zcu hp
     dsimp only at hmem ht
     obtain ⟨⟨fn,hf,hname,hbody⟩,hcall⟩:=hc.calls _ hmem
     have henter:(execOp a.eval ⟨dst,.call ⟨.value x,args,ts⟩,type,pos,after,guard⟩).run c.P w = .ok (.enter f ((args.map a.eval)++(⟨cs⟩:Array Value))) w:=by
       simp only [execOp,resolve,hx',Deferred.ofValue,Sem.run_bind,Sem.run_pure,Result.andThen_ok,invoke,callFunc,run_program,hf,hname,Bool.false_eq_true,if_false,hbody]
       simp
     refine Zg3 henter ?_
     rw [hall,← ZbL ht]
     refine (hcall t _ _ w hk).mono ?_
     rintro ending w' (⟨r,rfl,hsame,hk⟩ | ⟨v,rfl,hsame,hk⟩)
     ·exact hn _ w' hsame hk
     ·exact hp9 v w' hsame hk
    ·exact hk.elim
   split at hk
   ·rename_i f cs hx
    split at hk
    ·rename_i es hv
     have hx':a.eval x=Value.func (.func f) #[] ⟨cs⟩:=hag.ev hx
     have hall:(args.map a.eval)++(⟨cs⟩:Array Value)=((Zoi es cs).map EV.v).toArray:=by
       rw [XE hag hv]
       simp [Zoi,Function.comp_def,EV.v]
     split at hk
     ·rename_i s t hp
      obtain ⟨hmem,ht⟩:=Zcu hp
      dsimp only at hmem ht
      obtain ⟨⟨fn,hf,hname,hbody⟩,hcall⟩:=hc.calls _ hmem
      have henter:(execOp a.eval ⟨dst,.call ⟨.value x,args,ts⟩,type,pos,after,guard⟩).run c.P w = .ok (.enter f ((args.map a.eval)++(⟨cs⟩:Array Value))) w:=by
        simp only [execOp,resolve,hx',Deferred.ofValue,Sem.run_bind,Sem.run_pure,Result.andThen_ok,invoke,callFunc,run_program,hf,hname,Bool.false_eq_true,if_false,hbody]
        simp
      refine Zg3 henter ?_
      rw [hall,← ZbL ht]
      refine (hcall t _ _ w hk).mono ?_
      rintro ending w' (⟨r,rfl,hsame,hk⟩ | ⟨v,rfl,hsame,hk⟩)
      ·exact hn _ w' hsame hk
      ·exact hp9 v w' hsame hk
     ·cases hx9:ZpO f c.ext with
      | false=>rw [hx9] at hk;exact hk.elim
      | true =>
        rw [hx9] at hk
        simp only [cond_true] at hk
        split at hk
        ·rename_i y hy0
         obtain ⟨t,b,es',cl,hy,hb,hk⟩:=hk
         obtain ⟨w',hrun,hsame,hw'⟩:=hc.ext f (Zj5 hx9) t b es' cl w hb
         refine Val.wp (K:=K) ⟨.val (.iface t (.map (some w.heap.size))),w',?_,hsame,by rw [hw'];exact hk⟩ hn
         have hargs':(args.map a.eval)++(⟨cs⟩:Array Value) = #[.iface t (.map (some b))]:=by rw [hall,hy0];simp [hy]
         have hcap:(#[]++args.map a.eval)++(⟨cs⟩:Array Value) = #[.iface t (.map (some b))]:=by rw [Array.empty_append];exact hargs'
         simp only [execOp,resolve,hx',Deferred.ofValue,Sem.run_bind,Sem.run_pure,Result.andThen_ok,invoke,hcap]
         simpa [EV.v] using hrun
        ·exact hk.elim
    ·exact hk.elim
   ·rename_i l hx
    split at hk
    ·rename_i es hv
     have hx':a.eval x=Value.func (.yield l) #[] #[]:=hag.ev hx
     obtain ⟨fn,tmps,assign,body,hrun,hround⟩:=hc.yld l _ _ w hk
     refine Znk (l:=l) (f:=fn) (tmps:=tmps) (assign:=assign) (body:=body) (k:=fun b w'=>Same w w'∧K (.val (.bool b)) w'.heap) ?_ hround fun b w' h=>hn _ w' h.1 h.2
     have hargs:args.map a.eval=(es.map EV.v).toArray:=XE hag hv
     simp only [execOp,resolve,hx',Deferred.ofValue,Sem.run_bind,Sem.run_pure,Result.andThen_ok,invoke,hargs]
     simpa using hrun
    ·exact hk.elim
   ·exact hk.elim
  ·
   rename_i args ts ho
   cases ho
   split at hk
   ·rename_i t m k ht hv
    split at hk
    ·rename_i kt et hu
     split at hk
     ·rename_i d hd
      obtain ⟨hkey,hk1⟩:=Xv hk
      clear hk
      have hargs:=XE hag hv
      obtain ⟨w',hr,hs',hk⟩:=ZkF (P:=c.P) (ts:=ts) (ty:=type) ht hu hd hkey hk1
      refine Val.wp (K:=K) ⟨.val (.tuple #[]),w',?_,hs',hk⟩ hn
      refine Z0 (s:=Builtin.delete_ ts type #[.map m,k.v]) (fun ty cs=>?_) hr
      rw [hargs];rfl
     ·exact hk.elim
    ·exact hk.elim
   ·exact hk.elim
  ·
   rename_i x name args ts ho
   cases ho
   split at hk
   ·rename_i v es hx hv
    obtain ⟨t,f,p,y,hmem,hvv,hp,hk⟩:=ZiA hk
    have hm:Zkq c.P name t f:=hc.dyn _ hmem
    obtain ⟨hcm,ht⟩:=ZdK hp
    obtain ⟨⟨fn,hf,hname,hbody⟩,hcall⟩:=hc.calls _ hcm
    dsimp only at hf hname hbody hcall
    have hx':a.eval x = .iface t (p.a0.ev y).v:=(hag.ev hx).trans hvv
    have hall:(#[(p.a0.ev y).v]:Array Value)++(args.map a.eval)=((Ym.evs (p.a0::p.rest) (y,p.t)).map EV.v).toArray:=by
      rw [XE hag hv]
      simp only [Ym.evs,List.map_cons,ZbL ht]
      simp
    have henter:(execOp a.eval ⟨dst,.call ⟨.invoke x name,args,ts⟩,type,pos,after,guard⟩).run c.P w = .ok (.enter f ((#[(p.a0.ev y).v]:Array Value)++(args.map a.eval))) w:=by
      have hcut:((#[a.eval x]:Array Value)++args.map a.eval).extract 1 ((#[a.eval x]:Array Value)++args.map a.eval).size=args.map a.eval:=by
        apply Array.ext'
        simp only [Array.toList_extract,Array.toList_append,Array.size_append]
        simp
        rw [List.take_of_length_le (by simp)]
      have h0:((#[a.eval x]:Array Value)++args.map a.eval)[0]?=some (a.eval x):=by rw [← Array.getElem?_toList,Array.toList_append];rfl
      simp only [execOp,resolve,Sem.run_bind,Sem.run_pure,Result.andThen_ok,invoke,h0,hcut]
      rw [hx']
      have hm':=hm (p.a0.ev y).v w
      simp only [callMethod,Sem.run_bind,run_program,Result.andThen_ok]
      rw [hm']
      simp only [callFunc,Sem.run_bind,run_program,Result.andThen_ok,hf,hname,Bool.false_eq_true,if_false,hbody,Sem.run_pure]
    refine Zg3 henter ?_
    rw [hall]
    refine (hcall (y,p.t) _ _ w hk).mono ?_
    rintro ending w' (⟨r,rfl,hsame,hk⟩ | ⟨v,rfl,hsame,hk⟩)
    ·exact hn _ w' hsame hk
    ·exact hp9 v w' hsame hk
   ·exact hk.elim
  ·
   rename_i args ts ho
   cases ho
   split at hk
   ·rename_i t m ht hv
    split at hk
    ·rename_i kt et hu
     have hargs:=XE hag hv
     obtain ⟨w',hr,hs',hk⟩:=ZkH (P:=c.P) (ts:=ts) (ty:=type) ht hu hk
     refine Val.wp (K:=K) ⟨.val (.tuple #[]),w',?_,hs',hk⟩ hn
     refine Z0 (s:=Builtin.clear_ ts type #[.map m]) (fun ty cs=>?_) hr
     rw [hargs];rfl
    ·exact hk.elim
   ·rename_i t q l m ht hv
    split at hk
    ·rename_i el hu
     split at hk
     ·rename_i zs hz
      have hargs:=XE hag hv
      obtain ⟨w',hr,hs',hk⟩:=ZkG (P:=c.P) (ts:=ts) (ty:=type) ht hu hz hk
      refine Val.wp (K:=K) ⟨.val (.tuple #[]),w',?_,hs',hk⟩ hn
      refine Z0 (s:=Builtin.clear_ ts type #[.slice q l m]) (fun ty cs=>?_) hr
      rw [hargs];rfl
     ·exact hk.elim
    ·exact hk.elim
   ·exact hk.elim
  ·exact hk.elim
theorem Zkr {P:Program} {t:TypeId} {z:Value} (h:ZoX P t=some z):∃ i,P.info? t=some i∧i.zero=some z:=by
  unfold ZoX at h
  split at h
  ·rename_i i hi
   exact ⟨i,hi,h⟩
  ·cases h
theorem Zku (hag:Agr c.n e a) {t:TypeId} {x i:Operand} {ok:Bool} (hk:opP c (.lookup t x i ok) e h K):Zjx c ⟨dst,.lookup t x i ok,type,pos,after,guard⟩ a h K:=by
  simp only [opP] at hk
  split at hk
  ·rename_i kt et m k hu hx hi
   split at hk
   ·rename_i d z hd hz
    obtain ⟨inf,hinf,hiz⟩:=Zkr hz
    obtain ⟨r,hr,hk⟩:=ZiY (P:=c.P) hu hd hinf hiz hk
    obtain ⟨u,hu',hk⟩:=ZdV hk
    refine Zjx.of (v:=bif ok then .val (.tuple #[u.v,.bool r.isSome]) else u) (s:=Instr.lookup t (a.eval x) (a.eval i) ok) rfl (fun w hw=>?_) hk
    rw [hag.ev hx,hag.ev hi]
    have:=hr ok w hw
    rw [← hu'] at this
    cases ok<;>exact this
   ·exact hk.elim
  ·exact hk.elim
theorem Zio (hag:Agr c.n e a) {t:TypeId} {m k x:Operand} {next:Act→World→Prop} {Q:Exit→Act→World→Prop} (hk:opP c (.mapUpdate t m k x) e w.heap K)
    (hn:∀ v w',Same w w'→K v w'.heap→next (a.put dst v.v) w'):(⟨dst,.mapUpdate t m k x,type,pos,after,guard⟩:Oper).wpIn (fen c.rnd) 0 c.P a w next Q:=by
  simp only [opP] at hk
  split at hk
  ·rename_i kt et m' k' x' hu hm hkk hx
   split at hk
   ·rename_i d hd
    obtain ⟨w',hr,hs',hk⟩:=ZiX (P:=c.P) hu hd hk
    refine ZjA (w':=w') ?_ (hn (.val undef) _ hs' hk)
    refine ZqB (s:=Instr.mapUpdate t (a.eval m) (a.eval k) (a.eval x)) ?_
    rw [hag.ev hm,hag.ev hkk,hag.ev hx]
    exact hr
   ·exact hk.elim
  ·exact hk.elim
theorem ZdX (hag:Agr c.n e a) {t:TypeId} {x:Operand} (hk:opP c (.makeInterface t x) e h K):Zag c ⟨dst,.makeInterface t x,type,pos,after,guard⟩ a h K:=by
  simp only [opP] at hk
  split at hk
  ·rename_i v hv
   cases hb:ZbS (c.P.underlying t) with
   | true=>rw [hb] at hk;exact hk.elim
   | false =>
     rw [hb] at hk
     refine Zag.of (v:= .val (.iface t v.v)) (s:=Instr.makeInterface t (a.eval x)) rfl (fun w _=>?_) hk
     rw [hag.ev hv]
     exact Zd5 hb
  ·exact hk.elim
theorem Zck (hag:Agr c.n e a) {f:Fn} {first caps:Array Operand} (hk:opP c (.makeFunc f first caps) e h K):Zag c ⟨dst,.makeFunc f first caps,type,pos,after,guard⟩ a h K:=by
  cases f with
  | func g =>
    simp only [opP] at hk
    split at hk
    ·rename_i es hfi hv
     refine Zag.of (v:= .val (.func (.func g) ⟨[]⟩ ⟨es.map EV.v⟩)) (s:=Instr.makeFunc (.func g) (first.map a.eval) (caps.map a.eval)) rfl (fun w _=>?_) hk
     have h1:first = #[]:=by apply Array.ext';exact hfi
     rw [XE hag hv,h1]
     simp [Instr.makeFunc,EV.v]
    ·exact hk.elim
  | _=>simp [opP] at hk
theorem Ze8 {P:Program} {t xt:TypeId} {v:Value} {w:World} (h:ZbS (P.underlying t)=false):(Instr.typeAssert (.iface t v) xt t true).run P w = .ok (.tuple #[v,.bool true]) w:=by
  unfold Instr.typeAssert
  cases hu:P.underlying t with
  | none=>rw [hu] at h;cases h
  | some d =>
    rw [hu] at h
    simp only [Sem.run_bind,Zb P w t hu,Result.andThen_ok]
    cases d<;>first
      | (simp only [if_true];rfl)
      | cases h
theorem ZfW (hag:Agr c.n e a) {t xt:TypeId} {x:Operand} {ok:Bool} (hk:opP c (.typeAssert x xt t ok) e h K):Zag c ⟨dst,.typeAssert x xt t ok,type,pos,after,guard⟩ a h K:=by
  simp only [opP] at hk
  split at hk
  ·rename_i v hv
   cases hb:ZbS (c.P.underlying t) with
   | true=>rw [hb] at hk;exact hk.elim
   | false =>
     rw [hb] at hk
     cases ok with
     | false =>
       obtain ⟨y,hy,hk⟩:=hk
       obtain ⟨u,hu',hk⟩:=ZfO hk
       refine Zag.of (v:=u) (s:=Instr.typeAssert (a.eval x) xt t false) rfl (fun w _=>?_) hk
       rw [hag.ev hv,hy,hu']
       exact Zf3 hb
     | true =>
       simp only [cond_false,cond_true] at hk
       split at hk
       ·rename_i t' u
        cases ht:Nat.beq t' t with
        | false=>rw [ht] at hk;exact hk.elim
        | true =>
          rw [ht] at hk
          have:=Nat.eq_of_beq_eq_true ht
          subst this
          refine Zag.of (v:= .val (.tuple #[u,.bool true])) (s:=Instr.typeAssert (a.eval x) xt t' true) rfl (fun w _=>?_) hk
          rw [hag.ev hv]
          exact Ze8 hb
       ·exact hk.elim
  ·exact hk.elim
theorem Zlx (hag:Agr c.n e a) {t:TypeId} {x:Operand} (hk:opP c (.range t x) e w.heap K):Val c ⟨dst,.range t x,type,pos,after,guard⟩ a w K:=by
  simp only [opP] at hk
  split at hk
  ·rename_i kt et m hu hx
   cases m with
   | none =>
     refine Val.of (v:= .itr t w.heap.size) (w':=w.alloc (.mapIter none 0 #[] 0)) (s:=Instr.range t (a.eval x)) rfl ?_ ⟨rfl,rfl,rfl⟩ (hk.1 rfl)
     rw [hag.ev hx]
     exact run_range_nilMap w t _ _ hu
   | some b =>
     obtain ⟨es,cl,hb,hk⟩:=hk.2 b rfl
     refine Val.of (v:= .itr t w.heap.size) (w':=w.alloc (.mapIter (some b) cl #[] cl)) (s:=Instr.range t (a.eval x)) rfl ?_ ⟨rfl,rfl,rfl⟩ hk
     rw [hag.ev hx]
     exact run_range_map w t _ _ b es cl hu hb
  ·exact hk.elim
theorem Zno (hag:Agr c.n e a) {x:Operand} {q:Bool} (hk:opP c (.next x q) e w.heap K):Val c ⟨dst,.next x q,type,pos,after,guard⟩ a w K:=by
  cases q with
  | true=>exact hk.elim
  | false =>
    simp only [opP] at hk
    split at hk
    ·rename_i t b hx
     have hx':a.eval x = .pointer (some ⟨b,0,none⟩):=hag.ev hx
     rcases hk with ⟨s,seen,cc,hb,hk⟩ | ⟨bm,since,seen,c0,es,clock,hr,hb,hold,hsc,hF,hT⟩
     ·refine Val.of (v:= .over) (w':=w) (s:=Instr.next (a.eval x) false type) rfl ?_ (Same.refl w) hk
      rw [hx']
      simp [Instr.next,getObj,Sem.run,hb,Result.andThen,EV.v]
     ·rcases run_next_at (P:=c.P) w type b bm since c0 seen es clock hr hb hold hsc with ⟨h0,hrun⟩ | ⟨en,hen,w1,hw1,hrun⟩
      ·refine Val.of (v:= .over) (w':=w) (s:=Instr.next (a.eval x) false type) rfl ?_ (Same.refl w) (hF h0)
       rw [hx']
       exact hrun
      ·have hh:w1.heap=w.heap:=by rcases hw1 with rfl | rfl<;>rfl
       have hsm:Same w w1:=by rcases hw1 with rfl | rfl<;>exact ⟨rfl,rfl,rfl⟩
       refine Val.of (v:= .more en.key en.val) (w':=ChangeMaps.setBlock w1 b (.mapIter (some bm) since (seen.push en.born) clock)) (s:=Instr.next (a.eval x) false type) rfl ?_ ⟨hsm.1,hsm.2.1,hsm.2.2⟩ ?_
       ·rw [hx']
        exact hrun
       ·have:=hT en hen
        rw [← hh] at this
        exact this
    ·exact hk.elim
theorem Zlz (hag:Agr c.n e a) {x:Operand} (hk:opP c (.entry x) e h K):Zjx c ⟨dst,.entry x,type,pos,after,guard⟩ a h K:=by
  simp only [opP] at hk
  split at hk
  ·rename_i t b hx
   have hx':a.eval x = .pointer (some ⟨b,0,none⟩):=hag.ev hx
   split at hk
   ·rename_i kt et hu
    obtain ⟨bm,since,seen,es,clock,en,hr,hb,hen,hnd,hk⟩:=hk
    obtain ⟨k',hk',hk⟩:=ZdV hk
    obtain ⟨v',hv',hk⟩:=ZdV hk
    refine Zjx.of (v:= .val (.tuple #[k'.v,v'.v])) (s:=Instr.entry (a.eval x)) rfl (fun w hw=>?_) hk
    subst hw
    rw [hx',hk',hv']
    exact run_entry_at (P:=c.P) w b bm since seen es clock en hr hb hen hnd
   ·exact hk.elim
  ·exact hk.elim
theorem Znu (hag:Agr c.n e a) {t:TypeId} {x y:Operand} {next:Act→World→Prop} {Q:Exit→Act→World→Prop} (hk:opP c (.store t x y) e w.heap K)
    (hn:∀ v w',Same w w'→K v w'.heap→next (a.put dst v.v) w'):(⟨dst,.store t x y,type,pos,after,guard⟩:Oper).wpIn (fen c.rnd) 0 c.P a w next Q:=by
  simp only [opP] at hk
  split at hk
  ·rename_i u v hu hv
   obtain ⟨b,o,hp,hk⟩:=Zc3 hk
   obtain ⟨h',hr,hk⟩:=Znw hk
   refine ZjA (w':={ w with heap:=h' }) ?_ (hn (.val undef) _ ⟨rfl,rfl,rfl⟩ hk)
   refine ZqB (s:=Instr.storeAt t (a.eval x) (a.eval y)) ?_
   rw [hag.ev hu,hag.ev hv,hp]
   exact ZiW hr
  ·exact hk.elim
theorem Zl5 (hc:c.OK) (hag:Agr c.n e a) {o:Oper} {next:Act→World→Prop} {Q:Exit→Act→World→Prop} (hp9:∀ v w',Same w w'→c.pan v w'.heap→Q (.panic [{ v,recovered:=false }]) a w') (hk:opP c o.op e w.heap K)
    (hn:∀ v w',Same w w'→K v w'.heap→next (a.put o.dst v.v) w'):o.wpIn (fen c.rnd) 0 c.P a w next Q:=by
  obtain ⟨dst,op,type,pos,after,guard⟩:=o
  cases op
  case panic x =>
    have hk:(match e.ev x with | some (.val (.iface t v))=>c.pan (.iface t v) w.heap | _=>False):=hk
    split at hk
    ·rename_i t v hx
     refine Znl (fun _ h=>by cases h) (v:= .iface t v) ?_ (hp9 _ w (Same.refl w) hk)
     have hx':a.eval x = .iface t v:=hag.ev hx
     simp only [execOp,hx',Instr.panic,Sem.run_bind]
     rfl
    ·exact hk.elim
  case move=>exact (Zg9 hag hk).val.wp hn
  case assign=>exact (ZdY hag hk).val.wp hn
  case pick=>exact (Zg8 hag hk).val.wp hn
  case alloc=>exact (ZlA hk).wp hn
  case box=>exact (Zo0 hag hk).wp hn
  case build=>exact (Ze4 hag hk).val.wp hn
  case buildSlice=>exact (ZfX hag hk).wp hn
  case load=>exact (Zhb hag hk).val.wp hn
  case store=>exact Znu hag hk hn
  case nilCheck=>exact (Zcj hag hk).val.wp hn
  case binOp=>exact (Ze5 hag hk).val.wp hn
  case unOp=>exact (Zg7 hag hk).val.wp hn
  case convert=>exact (ZiR hag hk).wp hn
  case makeSlice=>exact (Zha hag hk).wp hn
  case slice=>exact (Ze0 hag hk).val.wp hn
  case fieldAddr=>exact (ZbJ hag hk).val.wp hn
  case field=>exact (Ze2 hag hk).val.wp hn
  case indexAddr=>exact (ZbI hag hk).val.wp hn
  case index=>exact (Ze1 hag hk).val.wp hn
  case extract=>exact (Zdg hag hk).val.wp hn
  case call=>exact ZpE hc hag hp9 hk hn
  case makeMap t r =>
    cases r with
    | some x=>exact hk.elim
    | none=>exact (Val.of (v:= .val (.map (some w.heap.size))) (w':={ w with heap:=w.heap.push (.map #[] 0)}) (s:=Instr.makeMap t none) rfl rfl ⟨rfl,rfl,rfl⟩ hk).wp hn
  case lookup=>exact (Zku hag hk).val.wp hn
  case mapUpdate=>exact Zio hag hk hn
  case range=>exact (Zlx hag hk).wp hn
  case next=>exact (Zno hag hk).wp hn
  case entry=>exact (Zlz hag hk).val.wp hn
  case makeInterface=>exact (ZdX hag hk).val.wp hn
  case makeFunc=>exact (Zck hag hk).val.wp hn
  case typeAssert=>exact (ZfW hag hk).val.wp hn
  all_goals exact hk.elim
theorem ZqE (hc:c.OK) (hag:Agr c.n e a) {o:Oper} {next:Act→World→Prop} {Q:Exit→Act→World→Prop} (hp9:∀ v w',Same w w'→c.pan v w'.heap→Q (.panic [{ v,recovered:=false }]) a w') (hk:opQ c o e w.heap K)
    (hn:∀ v w',Same w w'→K v w'.heap→next (a.put o.dst v.v) w'):o.wpIn (fen c.rnd) 0 c.P a w next Q:=by
  obtain ⟨dst,op,type,pos,after,guard⟩:=o
  cases op
  case assign x =>
    have hk:(bif Zms (c.P.underlying type) then (match e.ev x with
      | some v=>K v w.heap
      | none=>False) else opP c (.assign x) e w.heap K):=hk
    cases hb:Zms (c.P.underlying type) with
    | false =>
      rw [hb] at hk
      exact Zl5 hc hag (o:=⟨dst,.assign x,type,pos,after,guard⟩) hp9 hk hn
    | true =>
      rw [hb] at hk
      simp only [cond_true] at hk
      split at hk
      ·rename_i v hv
       have hp:Zag c ⟨dst,.assign x,type,pos,after,guard⟩ a w.heap K:=⟨v,fun w hw=>by simp [execOp,hag.ev hv],hk⟩
       exact hp.val.wp hn
      ·exact hk.elim
  all_goals exact Zl5 hc hag (o:=⟨dst,_,type,pos,after,guard⟩) hp9 hk hn
end
end Go.Fw
