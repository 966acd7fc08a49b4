/- Why a reading is right: the operations, all of them, continued: slices, fields, indexes, calls. -/
import Derived.Maps.RangeRun
import Derived.OrdersHeld
import Derived.OrdersIn
import Derived.Test.YthbfgkphlmlihaaGreatPa4
set_option linter.unusedVariables false
set_option linter.unusedSimpArgs false
namespace Go.Fw
open Go
section
variable {c:Cfg} {e:Env} {a:Act} {w:World} {h:Zd} {K:EV→Zd→Prop} {dst:Option Tmp} {type:TypeId} {pos:String} {after:Array Edge} {guard:Option (Nat × Bool)}
theorem Zfe (hag:Agr c.n e a) {d n:Int} {x:Option Operand} (h:ZrK d (x.map e.ev)=some n):(x.map a.eval=none∧n=d)∨∃ k,x.map a.eval=some (.int k n):=by
  rcases Zpz h with ⟨h1,h2⟩ | ⟨k,h1⟩
  ·left
   cases x with
   | none=>exact ⟨rfl,h2⟩
   | some x=>cases h1
  ·right
   cases x with
   | none=>cases h1
   | some x =>
     simp only [Option.map_some,Option.some.injEq] at h1
     exact ⟨k,by simp [hag.ev h1,EV.v]⟩
theorem ZhF (hag:Agr c.n e a) {t:TypeId} {x:Operand} {lo hi mx:Option Operand} (hk:opP c (.slice t x lo hi mx) e h K):Zcr c ⟨dst,.slice t x lo hi mx,type,pos,after,guard⟩ a h K:=by
  simp only [opP] at hk
  split at hk
  ·rename_i s hu hx
   split at hk
   ·rename_i l h hlo hhi
    obtain ⟨h0,h1,h2,hk⟩:=hk
    refine Zcr.of (s:=Instr.sliceAt t (a.eval x) (lo.map a.eval) (hi.map a.eval) (Option.map a.eval none)) rfl (fun w hw=>?_) hk
    rw [hag.ev hx]
    exact Zgg hu (ZjM (m:=(s.size:Int)) (Zfe hag hlo) (Zfe hag hhi) (.inl ⟨rfl,rfl⟩) (fun _=>rfl) h0 h1 h2 (Int.le_refl _))
   ·exact hk.elim
  ·rename_i el p l m hu hx
   split at hk
   ·rename_i lo' up most size bytes hlo hhi hmx hs
    cases hb:hi.isNone&&mx.isSome with
    | true=>rw [hb] at hk;exact hk.elim
    | false =>
      rw [hb] at hk
      obtain ⟨h0,h1,h2,h3,hk⟩:=hk
      obtain ⟨i,hinf,hsz,_⟩:=Zdw hs
      refine Zcr.of (v:= .val (.slice _ _ _)) (s:=Instr.sliceAt t (a.eval x) (lo.map a.eval) (hi.map a.eval) (mx.map a.eval)) rfl (fun w hw=>?_) hk
      rw [hag.ev hx]
      refine ZgM hu hinf hsz (ZjM (Zfe hag hlo) (Zfe hag hhi) (Zfe hag hmx) ?_ h0 h1 h2 h3)
      intro hn
      cases hi with
      | some _=>cases hn
      | none =>
        cases mx with
        | none=>rfl
        | some _=>cases hb
   ·exact hk.elim
  ·exact hk.elim
theorem Zey (hag:Agr c.n e a) {s:TypeId} {x:Operand} {f:Nat} (hk:opP c (.fieldAddr s x f) e h K):Zcr c ⟨dst,.fieldAddr s x f,type,pos,after,guard⟩ a h K:=by
  simp only [opP] at hk
  split at hk
  ·rename_i fs v hu hx
   split at hk
   ·rename_i fd hf
    cases hb:Nat.beq (c.P.cellsOf fd.type) 0 with
    | true=>rw [hb] at hk;exact hk.elim
    | false =>
      rw [hb] at hk
      obtain ⟨b,o,hp,hk⟩:=ZfJ hk
      rw [Zmq] at hk
      refine Zcr.of (s:=Instr.fieldAt s (a.eval x) f) rfl (fun w hw=>?_) hk
      rw [hag.ev hx,hp]
      exact ZlW hu hf (Nat.ne_of_beq_eq_false hb)
   ·exact hk.elim
  ·exact hk.elim
theorem ZhH (hag:Agr c.n e a) {s:TypeId} {x:Operand} {f:Nat} (hk:opP c (.field s x f) e h K):Zcr c ⟨dst,.field s x f,type,pos,after,guard⟩ a h K:=by
  simp only [opP] at hk
  split at hk
  ·rename_i fs cs hu hx
   split at hk
   ·rename_i fd hf
    cases hd:c.P.underlying fd.type with
    | none=>rw [hd] at hk;exact hk.elim
    | some d =>
      obtain ⟨i,hi⟩:=Zad c.P hd
      rw [hd] at hk
      cases ha:Za0 (some d) with
      | true =>
        rw [ha,Za3 c.P hi] at hk
        refine Zcr.of (v:= .val (.agg _)) (s:=Instr.field s (a.eval x) f) rfl (fun w hw=>?_) hk
        rw [hag.ev hx]
        exact Zki hu hf hd ha hi
      | false =>
        rw [ha] at hk
        simp only [cond_false] at hk
        split at hk
        ·rename_i v hv
         refine Zcr.of (v:= .val v) (s:=Instr.field s (a.eval x) f) rfl (fun w hw=>?_) hk
         rw [hag.ev hx]
         exact Zkh hu hf hd ha hv
        ·exact hk.elim
   ·exact hk.elim
  ·exact hk.elim
theorem Zex (hag:Agr c.n e a) {t:TypeId} {x i:Operand} (hk:opP c (.indexAddr t x i) e h K):Zcr c ⟨dst,.indexAddr t x i,type,pos,after,guard⟩ a h K:=by
  simp only [opP] at hk
  split at hk
  ·rename_i el p l m k n hu hx hi
   split at hk
   ·rename_i size bytes hs
    obtain ⟨b,o,rfl,h0,h1,hk⟩:=hk
    obtain ⟨inf,hinf,hsz,_⟩:=Zdw hs
    refine Zcr.of (s:=Instr.indexAt t (a.eval x) (a.eval i)) rfl (fun w hw=>?_) hk
    rw [hag.ev hx,hag.ev hi]
    exact ZgO hu hinf hsz h0 h1
   ·exact hk.elim
  ·rename_i n el v k j hu hx hi
   split at hk
   ·rename_i size bytes hs
    obtain ⟨b,o,hp,hk⟩:=ZfJ hk
    obtain ⟨h0,h1,hk⟩:=hk
    obtain ⟨inf,hinf,hsz,_⟩:=Zdw hs
    refine Zcr.of (s:=Instr.indexAt t (a.eval x) (a.eval i)) rfl (fun w hw=>?_) hk
    rw [hag.ev hx,hag.ev hi,hp]
    exact ZgP hu hinf hsz h0 h1
   ·exact hk.elim
  ·exact hk.elim
theorem ZiA {d:Option TypeDesc} {v:Value} {K:EV→Prop} (hk:Zm0 d v K):∃ u:EV,u.v=v∧K u:=by
  unfold Zm0 at hk
  split at hk<;>first
    | exact hk.elim
    | (obtain ⟨x,hx,hK⟩:=hk;refine ⟨_,?_,hK⟩;exact hx.symm)
    | exact ⟨.val v,rfl,hk⟩
theorem ZgA {P:Program} {t:TypeId} {v:Value} {K:EV→Prop} (hk:ZtL P t v K):∃ u:EV,u.v=v∧K u:=by
  unfold ZtL at hk
  cases hb:Za0 (P.underlying t) with
  | true =>
    rw [hb] at hk
    obtain ⟨r,hr,hK⟩:=hk
    exact ⟨.val (.agg (Tup.vals _ r).toArray),hr.symm,hK⟩
  | false =>
    rw [hb] at hk
    exact ZiA hk
theorem ZhG (hag:Agr c.n e a) {t:TypeId} {x i:Operand} (hk:opP c (.index t x i) e h K):Zcr c ⟨dst,.index t x i,type,pos,after,guard⟩ a h K:=by
  simp only [opP] at hk
  split at hk
  ·rename_i s k n hu hx hi
   obtain ⟨y,h0,hy,hk⟩:=hk
   refine Zcr.of (v:= .val (.int .u8 y.toNat)) (s:=Instr.index t (a.eval x) (a.eval i)) rfl (fun w hw=>?_) hk
   rw [hag.ev hx,hag.ev hi]
   exact Zhp hu h0 hy
  ·rename_i n el cs k j hu hx hi
   split at hk
   ·rename_i gs he
    obtain ⟨hl,hk⟩:=Zc0 hk
    obtain ⟨h0,h1,hk⟩:=hk
    obtain ⟨u,hu',hk⟩:=ZgA hk
    refine Zcr.of (v:=u) (s:=Instr.index t (a.eval x) (a.eval i)) rfl (fun w hw=>?_) hk
    rw [hag.ev hx,hag.ev hi,hu']
    exact ZhQ hu he h0 h1 (Nat.eq_of_beq_eq_true hl)
   ·exact hk.elim
  ·exact hk.elim
theorem ZfW (hag:Agr c.n e a) {x:Operand} {i:Nat} (hk:opP c (.extract x i) e h K):Zcr c ⟨dst,.extract x i,type,pos,after,guard⟩ a h K:=by
  simp only [opP] at hk
  split at hk
  ·rename_i k' v' hx
   cases hb:Nat.beq i 0 with
   | false=>rw [hb] at hk;exact hk.elim
   | true =>
     rw [hb] at hk
     have hi:=Nat.eq_of_beq_eq_true hb
     subst hi
     refine Zcr.of (v:= .lit true) (s:=Instr.extract (a.eval x) 0) rfl (fun w hw=>?_) hk
     rw [hag.ev hx]
     rfl
  ·rename_i hx
   cases hb:Nat.beq i 0 with
   | false=>rw [hb] at hk;exact hk.elim
   | true =>
     rw [hb] at hk
     have hi:=Nat.eq_of_beq_eq_true hb
     subst hi
     refine Zcr.of (v:= .lit false) (s:=Instr.extract (a.eval x) 0) rfl (fun w hw=>?_) hk
     rw [hag.ev hx]
     rfl
  ·rename_i vs hx
   split at hk
   ·rename_i v hv
    refine Zcr.of (v:= .val v) (s:=Instr.extract (a.eval x) i) rfl (fun w hw=>?_) hk
    rw [hag.ev hx]
    have hv':vs[i]?=some v:=by simpa using hv
    simp only [EV.v,Instr.extract,hv']
    rfl
   ·exact hk.elim
  ·exact hk.elim
theorem YI {P:Program} {w w':World} {ρ:Operand→Value} {b:Builtin} {args:Array Operand} {ts:Array TypeId} {v:Value} {s:Sem Value}
    (hb:∀ type consts,builtin b ts type consts (args.map ρ)=(do pure (.value (← s)))) (hr:s.run P w = .ok v w') :
    (execOp ρ ⟨dst,.call ⟨.builtin b,args,ts⟩,type,pos,after,guard⟩).run P w = .ok (.value v) w':=by
  simp only [execOp,resolve,Sem.run_bind,Sem.run_pure,Result.andThen_ok,invoke,hb,hr]
theorem ZbF (hag:Agr c.n e a) {args:Array Operand} {es:List EV} (h:evs e args.toList=some es):args.map a.eval=(es.map EV.v).toArray:=by
  apply Array.ext'
  simp [hag.evs h]
theorem Yt (hag:Agr c.n e a) {b:Builtin} {args:Array Operand} {ts:Array TypeId} (hb:(b = .len∧ZfQ c.P ts=false)∨b = .cap∨b = .min∨b = .max) (hk:Zi1 c (.call ⟨.builtin b,args,ts⟩) e h K) :
    Zcr c ⟨dst,.call ⟨.builtin b,args,ts⟩,type,pos,after,guard⟩ a h K:=by
  rcases hb with ⟨rfl,hmt⟩ | rfl | rfl | rfl
  ·simp only [Zi1] at hk
   split at hk
   ·rename_i t v ht hv
    have hargs:=ZbF hag hv
    have key:∀ n:Int,(∀ w,(Builtin.len_ ts type #[v.v]).run c.P w = .ok (.int .i64 n) w)→K (.val (.int .i64 n)) h→Zcr c ⟨dst,.call ⟨.builtin .len,args,ts⟩,type,pos,after,guard⟩ a h K:=by
      intro n hr hk
      refine ⟨.val (.int .i64 n),fun w _=>?_,hk⟩
      refine YI (s:=Builtin.len_ ts type #[v.v]) (fun ty cs=>?_) (hr w)
      rw [hargs];rfl
    split at hk
    ·rename_i s hu
     refine key _ (fun w=>?_) hk
     unfold Builtin.len_
     simp only [ht,EV.v,List.getElem?_toArray,List.getElem?_cons_zero,Sem.run_bind,Zk c.P w t hu,Result.andThen_ok]
     rfl
    ·rename_i el p n m hu
     refine key _ (fun w=>?_) hk
     unfold Builtin.len_
     simp only [ht,EV.v,List.getElem?_toArray,List.getElem?_cons_zero,Sem.run_bind,Zk c.P w t hu,Result.andThen_ok]
     rfl
    ·rename_i n el hu
     refine key _ (fun w=>?_) hk
     unfold Builtin.len_
     simp only [ht,List.getElem?_toArray,List.getElem?_cons_zero,Sem.run_bind,Zk c.P w t hu,Result.andThen_ok]
     rfl
    ·rename_i hu
     simp [ZfQ,ht,hu] at hmt
    ·exact hk.elim
   ·exact hk.elim
  ·simp only [Zi1] at hk
   split at hk
   ·rename_i t v ht hv
    have hargs:=ZbF hag hv
    split at hk
    ·rename_i el p n m hu
     refine ⟨.val (.int .i64 m),fun w _=>?_,hk⟩
     refine YI (s:=Builtin.cap_ ts type #[.slice p n m]) (fun ty cs=>?_) ?_
     ·rw [hargs];rfl
     ·unfold Builtin.cap_
      simp only [ht,List.getElem?_toArray,List.getElem?_cons_zero,Sem.run_bind,Zk c.P w t hu,Result.andThen_ok]
      rfl
    ·exact hk.elim
   ·exact hk.elim
  ·simp only [Zi1] at hk
   split at hk
   ·rename_i k x k' y hv
    have hargs:=ZbF hag hv
    refine ⟨.val (.int k (Zn1 x y)),fun w _=>?_,hk⟩
    refine YI (s:=Builtin.min_ ts type #[.int k x,.int k' y]) (fun ty cs=>?_) ?_
    ·rw [hargs];rfl
    ·unfold Builtin.min_
     simp [Builtin.min2,Zn1,EV.v]
   ·exact hk.elim
  ·simp only [Zi1] at hk
   split at hk
   ·rename_i k x k' y hv
    have hargs:=ZbF hag hv
    refine ⟨.val (.int k (Zl6 x y)),fun w _=>?_,hk⟩
    refine YI (s:=Builtin.max_ ts type #[.int k x,.int k' y]) (fun ty cs=>?_) ?_
    ·rw [hargs];rfl
    ·unfold Builtin.max_
     simp [Builtin.max2,Zl6,EV.v]
   ·exact hk.elim
theorem Zpa (hag:Agr c.n e a) {args:Array Operand} {ts:Array TypeId} (hk:Zi1 c (.call ⟨.builtin .len,args,ts⟩) e h K) :
    Zmr c ⟨dst,.call ⟨.builtin .len,args,ts⟩,type,pos,after,guard⟩ a h K:=by
  cases hm:ZfQ c.P ts with
  | false=>exact (Yt hag (.inl ⟨rfl,hm⟩) hk).q
  | true =>
    simp only [Zi1] at hk
    split at hk
    ·rename_i t v ht hv
     have hargs:=ZbF hag hv
     split at hk
     ·rename_i s hu
      simp [ZfQ,ht,hu] at hm
     ·rename_i el p n m hu
      simp [ZfQ,ht,hu] at hm
     ·rename_i n el hu
      simp [ZfQ,ht,hu] at hm
     ·rename_i kt et m hu
      have key:∀ n:Int,(∀ w:World,w.heap=h→(Builtin.len_ ts type #[.map m]).run c.P w = .ok (.int .i64 n) w)→K (.val (.int .i64 n)) h→Zmr c ⟨dst,.call ⟨.builtin .len,args,ts⟩,type,pos,after,guard⟩ a h K:=by
        intro n hr hk
        refine ⟨.val (.int .i64 n),fun w hw=>?_,hk⟩
        refine YI (s:=Builtin.len_ ts type #[.map m]) (fun ty cs=>?_) (hr w hw)
        rw [hargs];rfl
      cases m with
      | none =>
        refine key 0 (fun w _=>?_) (hk.1 rfl)
        unfold Builtin.len_
        simp only [ht,List.getElem?_toArray,List.getElem?_cons_zero,Sem.run_bind,Zk c.P w t hu,Result.andThen_ok]
        rfl
      | some b =>
        obtain ⟨es,cl,hb,hk⟩:=hk.2 b rfl
        refine key _ (fun w hw=>?_) hk
        subst hw
        unfold Builtin.len_
        simp only [ht,List.getElem?_toArray,List.getElem?_cons_zero,Sem.run_bind,Zk c.P w t hu,Result.andThen_ok,MapKept.run_getObj_map hb]
        rfl
     ·exact hk.elim
    ·exact hk.elim
theorem Zf5 {d:TypeDesc} {k:Value} (h:ZpV d k=true):MapKept.IsKey d k:=by
  unfold ZpV at h
  split at h
  ·split at h
   ·rename_i hk;subst hk;rfl
   ·cases h
  ·trivial
  ·trivial
  ·cases h
theorem Znd {P:Program} {t kt et:TypeId} {d:TypeDesc} {m:Option Nat} {k z:Value} {inf:TypeInfo} {h:Zd} {K:Option Value→Prop} (hu:P.underlying t=some (.map kt et)) (hd:P.underlying kt=some d) (hkey:ZpV d k=true)
    (hinf:P.info? et=some inf) (hiz:inf.zero=some z) (hk:Zid d h m k K) :
    ∃ r:Option Value,(∀ (ok:Bool) (w:World),w.heap=h→(Instr.lookup t (.map m) k ok).run P w = .ok (if ok then .tuple #[r.getD z,.bool r.isSome] else r.getD z) w)∧K r:=by
  have hz:∀ w:World,(zeroValue et).run P w = .ok z w:=fun w=>XO P w et hinf hiz
  cases m with
  | none =>
    refine ⟨none,fun ok w hw=>?_,hk.1 rfl⟩
    unfold Instr.lookup
    have hf:(Instr.findKey kt k []).run P w = .ok none w:=MapKept.run_findKey hd rfl
    simp only [Sem.run_bind,Zk P w t hu,Result.andThen_ok,Sem.run_pure,MapKept.run_checkKey hd (Zf5 hkey),hf,hz]
    rfl
  | some b =>
    obtain ⟨es,cl,r,hb,hfn,hk⟩:=hk.2 b rfl
    refine ⟨r.map (·.2),fun ok w hw=>?_,hk⟩
    subst hw
    unfold Instr.lookup
    have hf:(Instr.findKey kt k es.toList).run P w = .ok r w:=MapKept.run_findKey hd hfn
    simp only [Sem.run_bind,Zk P w t hu,Result.andThen_ok,MapKept.run_getObj_map hb,Sem.run_pure,MapKept.run_checkKey hd (Zf5 hkey),hf]
    cases r with
    | none=>simp only [Sem.run_bind,hz,Result.andThen_ok];rfl
    | some x=>rfl
theorem Znc {P:Program} {t kt et:TypeId} {d:TypeDesc} {m:Option Nat} {k v:Value} {w:World} {K:Zd→Prop} (hu:P.underlying t=some (.map kt et)) (hd:P.underlying kt=some d) (hkey:ZpV d k=true)
    (hk:Zib d w.heap m k v K):∃ w',(Instr.mapUpdate t (.map m) k v).run P w = .ok () w'∧Same w w'∧K w'.heap:=by
  obtain ⟨b,es,cl,r,rfl,hb,hks,hfn,hk⟩:=hk
  refine ⟨{ w with heap:=w.heap.setIfInBounds b (Zwa es cl k v r)},?_,⟨rfl,rfl,rfl⟩,hk⟩
  unfold Instr.mapUpdate
  have hf:(Instr.findKey kt k es.toList).run P w = .ok r w:=MapKept.run_findKey hd hfn
  simp only [Sem.run_bind,Zk P w t hu,Result.andThen_ok,MapKept.run_getObj_map hb,MapKept.run_checkKey hd (Zf5 hkey),hf]
  rcases MapKept.findNow_spec (Zf5 hkey) es.toList 0 hks with ⟨h1,_⟩ | ⟨j,e0,h1,h2,h3⟩
  ·rw [hfn] at h1
   cases h1
   exact MapKept.run_setObj_map _ hb
  ·rw [hfn] at h1
   cases h1
   have hkk:(Instr.keyThatStays (((es[0+j]?).map (·.key)).getD k) k).run P w = .ok k w:=by
     have h2':es[0+j]?=some e0:=by rw [Nat.zero_add];simpa using h2
     rw [h2']
     simp only [Option.map_some,Option.getD_some,h3]
     unfold Instr.keyThatStays
     have hs:Instr.sameBits 10000 k k=true:=by
       unfold ZpV at hkey
       split at hkey<;>first
         | (simp [Instr.sameBits];done)
         | (exact (MapKept.bytes_beq _ _).2 rfl)
         | cases hkey
     rw [if_pos hs]
     rfl
   simp only [Sem.run_bind,hkk,Result.andThen_ok]
   exact MapKept.run_setObj_map _ hb
theorem Zii {d:TypeDesc} {v w:Value} (hv:MapKept.IsKey d v) (hw:MapKept.IsKey d w):ZeP (some d) v w=some (Zfl v w):=by
  cases d<;>cases v<;>cases w<;>first
    | exact hv.elim
    | exact hw.elim
    | rfl
    | skip
  rename_i k k1 n1 k2 n2
  have h1:k1=k:=hv
  have h2:k2=k:=hw
  subst h1
  subst h2
  simp [ZeP,Zfl]
theorem Zku {P:Program} {t:TypeId} (h:ZiW (P.underlying t)=true):P.underlying t=some ((P.underlying t).getD .bool):=by
  cases hu:P.underlying t with
  | none=>rw [hu] at h;cases h
  | some d=>rfl
theorem Zgx {P:Program}:∀ {fs:List Field} {i:Nat} {xs ys:List Value},Zft P fs i=true→XW (Zfu P fs) (xs.drop i)→XW (Zfu P fs) (ys.drop i) →
    ZdP P fs xs ys=some (Zcz (xs.drop i) (ys.drop i))
  | [],i,xs,ys,_,hx,hy=>by
    cases hxs:xs.drop i with
    | cons a l=>rw [hxs] at hx;exact hx.elim
    | nil=>cases hys:ys.drop i with
      | cons a l=>rw [hys] at hy;exact hy.elim
      | nil=>rfl
  | f::fs,i,xs,ys,hf,hx,hy=>by
    simp only [Zft] at hf
    cases hn:(f.name == "_") with
    | true=>rw [hn] at hf;cases hf
    | false =>
      rw [hn] at hf
      simp only [cond_false] at hf
      cases hb:(Nat.beq f.offset i&&ZiW (P.underlying f.type)) with
      | false=>rw [hb] at hf;cases hf
      | true =>
        rw [hb] at hf
        simp only [cond_true] at hf
        simp only [Bool.and_eq_true] at hb
        have ho:=Nat.eq_of_beq_eq_true hb.1
        cases hxs:xs.drop i with
        | nil=>rw [hxs] at hx;exact hx.elim
        | cons a l =>
          cases hys:ys.drop i with
          | nil=>rw [hys] at hy;exact hy.elim
          | cons b m =>
            rw [hxs] at hx
            rw [hys] at hy
            have hx0:xs[f.offset]?=some a:=by rw [ho];have:=congrArg (fun l=>l[0]?) hxs;simpa using this
            have hy0:ys[f.offset]?=some b:=by rw [ho];have:=congrArg (fun l=>l[0]?) hys;simpa using this
            have hxd:xs.drop (i+1)=l:=by rw [← List.drop_drop,hxs];rfl
            have hyd:ys.drop (i+1)=m:=by rw [← List.drop_drop,hys];rfl
            have ih:=Zgx (P:=P) (fs:=fs) (i:=i+1) (xs:=xs) (ys:=ys) hf (by rw [hxd];exact hx.2) (by rw [hyd];exact hy.2)
            have hl:ZeP (P.underlying f.type) a b=some (Zfl a b):=by
              rw [Zku hb.2]
              exact Zii hx.1 hy.1
            simp only [ZdP,hn,cond_false,hx0,hy0,hl,ih,hxd,hyd,Zcz]
theorem Zks:∀ {ds:List TypeDesc} {vs:List Value},ZpU ds vs=true→XW ds vs
  | [],[],_=>trivial
  | d::ds,v::vs,h=>by
    simp only [ZpU] at h
    cases hb:ZpV d v with
    | false=>rw [hb] at h;cases h
    | true=>rw [hb] at h;exact ⟨Zf5 hb,Zks h⟩
  | [],_::_,h=>by cases h
  | _::_,[],h=>by cases h
theorem ZjF {P:Program} {kt:TypeId} {fs:Array Field} {cs:List Value} (h:Zq9 P kt fs cs=true):P.stoodInHeld kt=false∧Zft P fs.toList 0=true∧XW (Zfu P fs.toList) cs:=by
  unfold Zq9 at h
  cases h1:P.stoodInHeld kt with
  | true=>rw [h1] at h;cases h
  | false =>
    rw [h1] at h
    cases h2:Zft P fs.toList 0 with
    | false=>rw [h2] at h;cases h
    | true=>rw [h2] at h;exact ⟨rfl,rfl,Zks h⟩
theorem Zkj {P:Program} {w:World} {kt:TypeId} {fs:Array Field} {cs:List Value} (hd:P.underlying kt=some (.struct fs)) (hf:Zft P fs.toList 0=true) (hk:XW (Zfu P fs.toList) cs) (e:Bool) (n:Nat) :
    (Instr.checkKey e (n+1+1) kt (.agg cs.toArray)).run P w = .ok () w:=by
  unfold Instr.checkKey
  simp only [Sem.run_bind,Zk P w kt hd,Result.andThen_ok]
  rw [← Array.forIn_toList]
  have key:∀ (fs:List Field) (i:Nat),Zft P fs i=true→XW (Zfu P fs) (cs.drop i) →
      (forIn fs PUnit.unit fun f _=>(do
        if f.name≠ "_" then Instr.checkKey e (n+1) f.type (← part f.type cs.toArray f.offset)
        pure (ForInStep.yield PUnit.unit):Sem (ForInStep PUnit))).run P w = .ok PUnit.unit w:=by
    intro fs
    induction fs with
    | nil=>intro i _ _;simp
    | cons f fs ih =>
      intro i hf hk
      simp only [Zft] at hf
      cases hn:(f.name == "_") with
      | true=>rw [hn] at hf;cases hf
      | false =>
        rw [hn] at hf
        simp only [cond_false] at hf
        have hne:f.name≠ "_" :=by
          intro he
          rw [he] at hn
          simp at hn
        cases hb:(Nat.beq f.offset i&&ZiW (P.underlying f.type)) with
        | false=>rw [hb] at hf;cases hf
        | true =>
          rw [hb] at hf
          simp only [cond_true] at hf
          simp only [Bool.and_eq_true] at hb
          have ho:=Nat.eq_of_beq_eq_true hb.1
          cases hxs:cs.drop i with
          | nil=>rw [hxs] at hk;exact hk.elim
          | cons a l =>
            rw [hxs] at hk
            have hx0:cs.toArray[f.offset]?=some a:=by rw [ho];have:=congrArg (fun l=>l[0]?) hxs;simpa using this
            have hxd:cs.drop (i+1)=l:=by rw [← List.drop_drop,hxs];rfl
            have hu:=Zku hb.2
            have h1:Za0 (P.underlying f.type)=false:=by
              have:=hb.2
              unfold ZiW at this
              split at this<;>first
                | (rename_i h;rw [h];rfl)
                | cases this
            have hp:=Zbv (P:=P) (w:=w) (t:=f.type) (xs:=cs.toArray) (off:=f.offset) h1 (by rw [hu];rfl) hx0
            have hc:=MapKept.run_checkKey (P:=P) (w:=w) hu hk.1 e n
            have:=ih (i+1) hf (by rw [hxd];exact hk.2)
            simp only [ne_eq] at this
            simp only [List.forIn_cons,ne_eq,hne,not_false_eq_true,if_true,Sem.run_bind,hp,Result.andThen_ok,hc,Sem.run_pure]
            exact this
  have:=key fs.toList 0 hf (by simpa using hk)
  simp only [this,Result.andThen_ok,Sem.run_pure]
theorem Zk7 {P:Program} {w:World} {kt:TypeId} {fs:Array Field} {xs ys:List Value} (hd:P.underlying kt=some (.struct fs)) (hs:P.stoodInHeld kt=false) (hf:Zft P fs.toList 0=true)
    (hx:XW (Zfu P fs.toList) xs) (hy:XW (Zfu P fs.toList) ys):(Op.equal kt (.agg xs.toArray) (.agg ys.toArray)).run P w = .ok (Zcz xs ys) w:=by
  have hfo:P.fieldsOf kt=fs:=by unfold Program.fieldsOf;rw [hd]
  unfold Op.equal Op.maxDepth
  rw [show (10000:Nat)=9998+1+1 from rfl,run_equalIn_agg w _ kt _ _ (by rw [hfo];exact hd) hs,hfo]
  have:=Zgx (P:=P) (fs:=fs.toList) (i:=0) (xs:=xs) (ys:=ys) hf (by simpa using hx) (by simpa using hy)
  exact ZeR (xs:=xs.toArray) (ys:=ys.toArray) this
structure Zj1 (P:Program) (kt:TypeId) (d:TypeDesc) (ds:List TypeDesc):Prop where
  und:P.underlying kt=some d
  chk:∀ {cs:List Value},XW ds cs→∀ (e:Bool) (n:Nat) (w:World),(Instr.checkKey e (n+1+1) kt (.agg cs.toArray)).run P w = .ok () w
  eq:∀ {xs ys:List Value},XW ds xs→XW ds ys→∀ w:World,(Op.equal kt (.agg xs.toArray) (.agg ys.toArray)).run P w = .ok (Zcz xs ys) w
  now:∀ (x:Array Value) (y:Value),Instr.sameNow d (.agg x) y=none
theorem Zqm {P:Program} {kt:TypeId} {fs:Array Field} (hd:P.underlying kt=some (.struct fs)) (hs:P.stoodInHeld kt=false) (hf:Zft P fs.toList 0=true):Zj1 P kt (.struct fs) (Zfu P fs.toList) :=
  ⟨hd,fun hl e n w=>Zkj hd hf hl e n,fun hx hy w=>Zk7 hd hs hf hx hy,fun x y=>by unfold Instr.sameNow;rfl⟩
theorem Zqi {b A:Bool} (h:(bif b then A else false)=true):b=true∧A=true:=by
  cases b with
  | true=>exact ⟨rfl,h⟩
  | false=>cases h
theorem ZjG {P:Program} {n:Nat} {e:TypeId} {cs:List Value} (h:Zra P n e cs=true):n=2∧ZiW (P.underlying e)=true∧(∃ i,P.info? e=some i∧i.size=1)∧XW [(P.underlying e).getD .bool,(P.underlying e).getD .bool] cs:=by
  unfold Zra at h
  obtain ⟨h1,h⟩:=Zqi h
  obtain ⟨h2,h⟩:=Zqi h
  cases hi:P.info? e with
  | none=>rw [hi] at h;cases h
  | some i =>
    rw [hi] at h
    obtain ⟨h3,h⟩:=Zqi h
    exact ⟨Nat.eq_of_beq_eq_true h1,h2,⟨i,rfl,Nat.eq_of_beq_eq_true h3⟩,Zks h⟩
theorem ZnD {d:Option TypeDesc} (h:ZiW d=true):Za0 d=false:=by
  unfold ZiW at h
  split at h<;>first
    | rfl
    | cases h
theorem Zpf {ds:TypeDesc} {cs:List Value} (h:XW [ds,ds] cs):∃ a b,cs=[a,b]∧MapKept.IsKey ds a∧MapKept.IsKey ds b:=by
  match cs,h with
  | [a,b],⟨h1,h2,_⟩=>exact ⟨a,b,rfl,h1,h2⟩
  | [],h=>exact h.elim
  | [_],⟨_,h⟩=>exact h.elim
  | _::_::_::_,⟨_,_,h⟩=>exact h.elim
theorem Zqn {P:Program} {kt el:TypeId} (hd:P.underlying kt=some (.array 2 el)) (hf:ZiW (P.underlying el)=true) (hi:∃ i,P.info? el=some i∧i.size=1) :
    Zj1 P kt (.array 2 el) [(P.underlying el).getD .bool,(P.underlying el).getD .bool]:=by
  obtain ⟨i,hi,h1⟩:=hi
  have hu:=Zku hf
  have hs:∀ w:World,(sizeOf el).run P w = .ok 1 w:=fun w=>by rw [Xm P w el hi,h1]
  have pt:∀ (xs:Array Value) (off:Nat) (x:Value) (w:World),xs[off]?=some x→(part el xs off).run P w = .ok x w:=fun xs off x w hx=>Zbv (ZnD hf) (by rw [hu];rfl) hx
  refine ⟨hd,fun {cs} hl e n w=>?_,fun {xs ys} hx hy w=>?_,fun x y=>by unfold Instr.sameNow;rfl⟩
  ·obtain ⟨a,b,rfl,ha,hb⟩:=Zpf hl
   have ca:=MapKept.run_checkKey (P:=P) (w:=w) hu ha e n
   have cb:=MapKept.run_checkKey (P:=P) (w:=w) hu hb e n
   have pa:=pt #[a,b] 0 a w rfl
   have pb:=pt #[a,b] 1 b w rfl
   unfold Instr.checkKey
   simp only [Sem.run_bind,Zk P w kt hd,Result.andThen_ok,Std.Legacy.Range.forIn_eq_forIn_range',Std.Legacy.Range.size,Nat.sub_zero,Nat.add_sub_cancel,Nat.div_one,List.range',List.forIn_cons,List.forIn_nil,hs,Nat.zero_mul,Nat.one_mul,Nat.mul_one,Nat.zero_add,pa,pb,ca,cb,Sem.run_pure]
  ·obtain ⟨a,b,rfl,ha,hb⟩:=Zpf hx
   obtain ⟨c,d,rfl,hc,hd'⟩:=Zpf hy
   have e1:ZeP (P.underlying el) a c=some (Zfl a c):=by rw [hu];exact Zii ha hc
   have e2:ZeP (P.underlying el) b d=some (Zfl b d):=by rw [hu];exact Zii hb hd'
   have q1:=(ZeO (d:=9998) (w:=w) e1).2.2
   have q2:=(ZeO (d:=9998) (w:=w) e2).2.2
   have pa:=pt #[a,b] 0 a w rfl
   have pb:=pt #[a,b] 1 b w rfl
   have pc:=pt #[c,d] 0 c w rfl
   have pd:=pt #[c,d] 1 d w rfl
   unfold Op.equal Op.maxDepth
   rw [show (10000:Nat)=9998+1+1 from rfl]
   unfold Op.equalIn
   simp only [Sem.run_bind,Zk P w kt hd,Result.andThen_ok,Std.Legacy.Range.forIn_eq_forIn_range',Std.Legacy.Range.size,Nat.sub_zero,Nat.add_sub_cancel,Nat.div_one,List.range',List.forIn_cons,List.forIn_nil,hs,Nat.zero_mul,Nat.one_mul,Nat.mul_one,Nat.zero_add,pa,pb,pc,pd,q1,Sem.run_pure,Zcz]
   cases Zfl a c<;>simp only [Bool.not_true,Bool.not_false,Bool.false_eq_true,if_true,if_false,Sem.run_bind,Sem.run_pure,Result.andThen_ok,cond_true,cond_false,pb,pd,q2]
   cases Zfl b d<;>simp [Sem.run_pure]
theorem ZfO {P:Program} {w:World} {kt:TypeId} {d:TypeDesc} {ds:List TypeDesc} {k:List Value} (hA:Zj1 P kt d ds)
    (hk:XW ds k):∀ (l:List MapEntry) (i:Nat),(∀ x,x∈l→ZgB ds x.key)→(Instr.findAsking kt (.agg k.toArray) l i).run P w = .ok (ZeZ k l i) w
  | [],i,_=>rfl
  | e::l,i,h=>by
    obtain ⟨cs,hcs,hl⟩:=h e (.head _)
    have he:=hA.eq hk hl w
    have ih:=ZfO (w:=w) hA hk l (i+1) (fun x hx=>h x (.tail _ hx))
    unfold Instr.findAsking
    have ha:ZiF k e.key=Zcz k cs:=by rw [hcs];simp [ZiF]
    rw [hcs]
    simp only [Sem.run_bind,he,Result.andThen_ok,ZeZ,ha]
    cases Zcz k cs with
    | true=>simp
    | false=>simpa using ih
theorem Ze8 {P:Program} {w:World} {kt:TypeId} {d:TypeDesc} {ds:List TypeDesc} {k:List Value} (hA:Zj1 P kt d ds)
    (hk:XW ds k) (l:List MapEntry) (h:∀ x,x∈l→ZgB ds x.key):(Instr.findKey kt (.agg k.toArray) l).run P w = .ok (ZeZ k l 0) w:=by
  unfold Instr.findKey
  simp only [Sem.run_bind,Zk P w kt hA.und,Result.andThen_ok]
  cases l with
  | nil=>rfl
  | cons e l =>
    have:Instr.findNow d (.agg k.toArray) (e::l) 0=none:=by
      unfold Instr.findNow
      rw [hA.now]
    rw [this]
    exact ZfO hA hk (e::l) 0 h
theorem ZfN:∀ {ds:List TypeDesc} {xs ys:List Value} (n:Nat),XW ds xs→XW ds ys→Zcz xs ys=true→xs=ys
  | [],[],[],_,_,_,_=>rfl
  | d::ds,x::xs,y::ys,n,hx,hy,h=>by
    simp only [Zcz] at h
    cases hb:Zfl x y with
    | false=>rw [hb] at h;cases h
    | true =>
      rw [hb] at h
      have:x=y:=by
        have h1:=hx.1
        have h2:=hy.1
        cases d<;>cases x<;>cases y<;>first
          | exact h1.elim
          | exact h2.elim
          | skip
        all_goals simp only [Zfl,XN,MapKept.IsKey,beq_iff_eq] at hb h1 h2
        all_goals first
          | (subst hb;rfl)
          | (subst h1;subst h2;subst hb;rfl)
          | (congr 1;exact (MapKept.bytes_beq _ _).1 ((beq_toListBytes _ _).trans (by simpa using hb)))
      rw [this,ZfN n hx.2 hy.2 h]
  | [],[],_::_,_,_,hy,_=>hy.elim
  | [],_::_,_,_,hx,_,_=>hx.elim
  | _::_,[],_,_,hx,_,_=>hx.elim
  | _::_,_::_,[],_,_,hy,_=>hy.elim
theorem ZjH {k:List Value}:∀ {l:List MapEntry} {i j:Nat} {v:Value},ZeZ k l i=some (j,v)→∃ m e,j=i+m∧l[m]?=some e∧e.val=v∧ZiF k e.key=true
  | e::l,i,j,v,h=>by
    simp only [ZeZ] at h
    cases hb:ZiF k e.key with
    | true =>
      rw [hb] at h
      simp only [cond_true,Option.some.injEq,Prod.mk.injEq] at h
      exact ⟨0,e,h.1.symm,rfl,h.2,hb⟩
    | false =>
      rw [hb] at h
      obtain ⟨m,e',h1,h2,h3,h4⟩:=ZjH (l:=l) (i:=i+1) h
      exact ⟨m+1,e',by omega,h2,h3,h4⟩
theorem Zkf:∀ {ds:List TypeDesc} {xs:List Value},XW ds xs→Instr.sameBits 10000 (.agg xs.toArray) (.agg xs.toArray)=true:=by
  intro ds xs h
  have key:∀ (ds:List TypeDesc) (xs:List Value),XW ds xs→((xs.zip xs).all fun (x,y)=>Instr.sameBits 9999 x y)=true:=by
    intro ds
    induction ds with
    | nil=>intro xs h;cases xs with
      | nil=>rfl
      | cons _ _=>exact h.elim
    | cons d ds ih =>
      intro xs h
      cases xs with
      | nil=>exact h.elim
      | cons x xs =>
        simp only [List.zip_cons_cons,List.all_cons,Bool.and_eq_true]
        refine ⟨?_,ih xs h.2⟩
        have h1:=h.1
        cases d<;>cases x<;>first
          | exact h1.elim
          | (simp [Instr.sameBits];done)
          | exact (MapKept.bytes_beq _ _).2 rfl
  show (xs.toArray.size ==xs.toArray.size&&(xs.toArray.toList.zip xs.toArray.toList).all fun (x,y)=>Instr.sameBits 9999 x y)=true
  rw [Bool.and_eq_true]
  exact ⟨by simp,key ds xs h⟩
theorem ZhP {P:Program} {t kt et:TypeId} {d:TypeDesc} {ds:List TypeDesc} {m:Option Nat} {k:List Value} {z:Value} {inf:TypeInfo} {h:Zd} {K:Option Value→Prop} (hu:P.underlying t=some (.map kt et)) (hA:Zj1 P kt d ds) (hl:XW ds k)
    (hinf:P.info? et=some inf) (hiz:inf.zero=some z) (hk:ZbZ ds h m k K) :
    ∃ r:Option Value,(∀ (ok:Bool) (w:World),w.heap=h→(Instr.lookup t (.map m) (.agg k.toArray) ok).run P w = .ok (if ok then .tuple #[r.getD z,.bool r.isSome] else r.getD z) w)∧K r:=by
  have hz:∀ w:World,(zeroValue et).run P w = .ok z w:=fun w=>XO P w et hinf hiz
  have hck:∀ (w:World) (e:Bool),(Instr.checkKey e 10000 kt (.agg k.toArray)).run P w = .ok () w:=fun w e=>hA.chk hl e 9998 w
  cases m with
  | none =>
    refine ⟨none,fun ok w hw=>?_,hk.1 rfl⟩
    unfold Instr.lookup
    have hf0:(Instr.findKey kt (.agg k.toArray) []).run P w = .ok none w:=Ze8 hA hl [] (fun x hx=>by cases hx)
    simp only [Sem.run_bind,Zk P w t hu,Result.andThen_ok,Sem.run_pure,hck,hf0,hz]
    rfl
  | some b =>
    obtain ⟨es,cl,hb,hks,hk⟩:=hk.2 b rfl
    refine ⟨_,fun ok w hw=>?_,hk⟩
    subst hw
    unfold Instr.lookup
    have hf0:=Ze8 (P:=P) (w:=w) hA hl es.toList hks
    simp only [Sem.run_bind,Zk P w t hu,Result.andThen_ok,MapKept.run_getObj_map hb,Sem.run_pure,hck,hf0]
    cases ZeZ k es.toList 0 with
    | none=>simp only [Sem.run_bind,hz,Result.andThen_ok];rfl
    | some x=>rfl
theorem ZhO {P:Program} {t kt et:TypeId} {d:TypeDesc} {ds:List TypeDesc} {m:Option Nat} {k:List Value} {v:Value} {w:World} {K:Zd→Prop} (hu:P.underlying t=some (.map kt et)) (hA:Zj1 P kt d ds) (hl:XW ds k)
    (hk:ZgY ds w.heap m k v K):∃ w',(Instr.mapUpdate t (.map m) (.agg k.toArray) v).run P w = .ok () w'∧Same w w'∧K w'.heap:=by
  obtain ⟨b,es,cl,rfl,hb,hks,hk⟩:=hk
  refine ⟨{ w with heap:=w.heap.setIfInBounds b (Zwa es cl (.agg k.toArray) v (ZeZ k es.toList 0))},?_,⟨rfl,rfl,rfl⟩,hk⟩
  unfold Instr.mapUpdate
  have hck:(Instr.checkKey false 10000 kt (.agg k.toArray)).run P w = .ok () w:=hA.chk hl false 9998 w
  have hf0:=Ze8 (P:=P) (w:=w) hA hl es.toList hks
  simp only [Sem.run_bind,Zk P w t hu,Result.andThen_ok,MapKept.run_getObj_map hb,hck,hf0]
  cases hfa:ZeZ k es.toList 0 with
  | none=>exact MapKept.run_setObj_map _ hb
  | some jv =>
    obtain ⟨j,u⟩:=jv
    obtain ⟨m,e0,h1,h2,h3,h4⟩:=ZjH hfa
    rw [Nat.zero_add] at h1
    subst h1
    have h2':es[j]?=some e0:=by simpa using h2
    obtain ⟨cs,hcs,hlc⟩:=hks e0 (List.mem_of_getElem? h2)
    have heq:k=cs:=ZfN 0 hl hlc (by rw [hcs] at h4;simpa [ZiF] using h4)
    have hkk:(Instr.keyThatStays (((es[j]?).map (·.key)).getD (.agg k.toArray)) (.agg k.toArray)).run P w = .ok (.agg k.toArray) w:=by
      rw [h2']
      simp only [Option.map_some,Option.getD_some,hcs,← heq]
      unfold Instr.keyThatStays
      rw [if_pos (Zkf hl)]
      rfl
    simp only [Sem.run_bind,hkk,Result.andThen_ok]
    exact MapKept.run_setObj_map _ hb
theorem ZlV {P:Program} {t kt et:TypeId} {d:TypeDesc} {m:Option Nat} {k z:Value} {inf:TypeInfo} {h:Zd} {K:Option Value→Prop} (hu:P.underlying t=some (.map kt et)) (hd:P.underlying kt=some d)
    (hinf:P.info? et=some inf) (hiz:inf.zero=some z) (hk:Zl7 P kt d h m k K) :
    ∃ r:Option Value,(∀ (ok:Bool) (w:World),w.heap=h→(Instr.lookup t (.map m) k ok).run P w = .ok (if ok then .tuple #[r.getD z,.bool r.isSome] else r.getD z) w)∧K r:=by
  unfold Zl7 at hk
  split at hk
  ·obtain ⟨hkey,hk⟩:=Zc0 hk
   obtain ⟨hs,hf,hl⟩:=ZjF hkey
   exact ZhP (k:=_) hu (Zqm hd hs hf) hl hinf hiz hk
  ·obtain ⟨hkey,hk2⟩:=Zc0 hk
   obtain ⟨rfl,hf,hi,hl⟩:=ZjG hkey
   exact ZhP (k:=_) hu (Zqn hd hf hi) hl hinf hiz hk2
  ·obtain ⟨hkey,hk⟩:=Zc0 hk
   exact Znd hu hd hkey hinf hiz hk
theorem ZhN {P:Program} {t kt et:TypeId} {d:TypeDesc} {m:Option Nat} {k v:Value} {w:World} {K:Zd→Prop} (hu:P.underlying t=some (.map kt et)) (hd:P.underlying kt=some d)
    (hk:Zkq P kt d w.heap m k v K):∃ w',(Instr.mapUpdate t (.map m) k v).run P w = .ok () w'∧Same w w'∧K w'.heap:=by
  unfold Zkq at hk
  split at hk
  ·obtain ⟨hkey,hk⟩:=Zc0 hk
   obtain ⟨hs,hf,hl⟩:=ZjF hkey
   exact ZhO (k:=_) hu (Zqm hd hs hf) hl hk
  ·obtain ⟨hkey,hk2⟩:=Zc0 hk
   obtain ⟨rfl,hf,hi,hl⟩:=ZjG hkey
   exact ZhO (k:=_) hu (Zqn hd hf hi) hl hk2
  ·obtain ⟨hkey,hk⟩:=Zc0 hk
   exact Znc hu hd hkey hk
theorem Zne {P:Program} {t kt et ty:TypeId} {d:TypeDesc} {m:Option Nat} {k:Value} {ts:Array TypeId} {w:World} {K:Zd→Prop} (ht:ts[0]?=some t) (hu:P.underlying t=some (.map kt et)) (hd:P.underlying kt=some d) (hkey:ZpV d k=true)
    (hk:Zle d w.heap m k K):∃ w',(Builtin.delete_ ts ty #[.map m,k]).run P w = .ok (.tuple #[]) w'∧Same w w'∧K w'.heap:=by
  cases m with
  | none =>
    refine ⟨w,?_,Same.refl w,hk.1 rfl⟩
    unfold Builtin.delete_
    simp only [ht,List.getElem?_toArray,List.getElem?_cons_zero,List.getElem?_cons_succ,Sem.run_bind,Zk P w t hu,Result.andThen_ok,MapKept.run_checkKey hd (Zf5 hkey)]
    rfl
  | some b =>
    obtain ⟨es,cl,r,hb,hfn,hk⟩:=hk.2 b rfl
    refine ⟨{ w with heap:=w.heap.setIfInBounds b (ZAZ es cl r)},?_,⟨rfl,rfl,rfl⟩,hk⟩
    unfold Builtin.delete_
    have hf:(Instr.findKey kt k es.toList).run P w = .ok r w:=MapKept.run_findKey hd hfn
    simp only [ht,List.getElem?_toArray,List.getElem?_cons_zero,List.getElem?_cons_succ,Sem.run_bind,Zk P w t hu,Result.andThen_ok,MapKept.run_getObj_map hb,MapKept.run_checkKey hd (Zf5 hkey),hf]
    cases r with
    | none=>simp only [Sem.run_bind,MapKept.run_setObj_map _ hb,Result.andThen_ok];rfl
    | some x=>simp only [Sem.run_bind,MapKept.run_setObj_map _ hb,Result.andThen_ok];rfl
theorem Zng {P:Program} {t kt et ty:TypeId} {m:Option Nat} {ts:Array TypeId} {w:World} {K:Zd→Prop} (ht:ts[0]?=some t) (hu:P.underlying t=some (.map kt et))
    (hk:ZAy w.heap m K):∃ w',(Builtin.clear_ ts ty #[.map m]).run P w = .ok (.tuple #[]) w'∧Same w w'∧K w'.heap:=by
  cases m with
  | none =>
    refine ⟨w,?_,Same.refl w,hk.1 rfl⟩
    unfold Builtin.clear_
    simp only [ht,List.getElem?_toArray,List.getElem?_cons_zero,Sem.run_bind,Zk P w t hu,Result.andThen_ok]
    rfl
  | some b =>
    obtain ⟨es,cl,hb,hk⟩:=hk.2 b rfl
    refine ⟨{ w with heap:=w.heap.setIfInBounds b (.map #[] cl)},?_,⟨rfl,rfl,rfl⟩,hk⟩
    unfold Builtin.clear_
    simp only [ht,List.getElem?_toArray,List.getElem?_cons_zero,Sem.run_bind,Zk P w t hu,Result.andThen_ok,MapKept.run_getObj_map hb,MapKept.run_setObj_map _ hb]
    rfl
theorem Znf {P:Program} {t el ty:TypeId} {q:Option Addr} {l m:Nat} {zs:List Value} {ts:Array TypeId} {w:World} {K:Zd→Prop} (ht:ts[0]?=some t) (hu:P.underlying t=some (.slice el)) (hz:Zho P el=some zs)
    (hk:ZAx ⟨q,l,m⟩ zs w.heap K):∃ w',(Builtin.clear_ ts ty #[.slice q l m]).run P w = .ok (.tuple #[]) w'∧Same w w'∧K w'.heap:=by
  rcases hk with ⟨h0,hk⟩ | ⟨h0,hk⟩ | ⟨b,o,hp,hf,ha,hk⟩
  ·dsimp only at h0
   subst h0
   refine ⟨w,?_,Same.refl w,hk⟩
   unfold Builtin.clear_
   simp only [ht,List.getElem?_toArray,List.getElem?_cons_zero,Sem.run_bind,Zk P w t hu,Result.andThen_ok]
   rfl
  ·dsimp only at h0
   subst h0
   refine ⟨w,?_,Same.refl w,hk⟩
   unfold Builtin.clear_
   simp only [ht,List.getElem?_toArray,List.getElem?_cons_zero,Sem.run_bind,Zk P w t hu,Result.andThen_ok]
   cases q<;>rfl
  ·dsimp only at hp hf ha hk
   subst hp
   obtain ⟨i,z,hi,hiz,rfl⟩:=ZbT hz
   cases l with
   | zero =>
     refine ⟨w,?_,Same.refl w,?_⟩
     ·unfold Builtin.clear_
      simp only [ht,List.getElem?_toArray,List.getElem?_cons_zero,Sem.run_bind,Zk P w t hu,Result.andThen_ok]
      rfl
     ·have e:X6 z.cells.toList 0=[]:=rfl
      rw [e] at hk
      exact hk
   | succ l =>
     refine ⟨{ w with heap:=Zd.puts w.heap b o (X6 z.cells.toList (l+1))},?_,⟨rfl,rfl,rfl⟩,hk⟩
     unfold Builtin.clear_
     have hst:=ZcM P b o (X6 z.cells.toList (l+1)) 0 w (by simpa using hf) ha
     simp only [ht,List.getElem?_toArray,List.getElem?_cons_zero,Sem.run_bind,Zk P w t hu,Result.andThen_ok,XO P w el hi hiz,Zhc,hst]
     simp
theorem ZgN {P:Program} {t:TypeId} {v:Value} {w:World} (h:ZeF (P.underlying t)=false):(Instr.makeInterface t v).run P w = .ok (.iface t v) w:=by
  unfold Instr.makeInterface
  cases hu:P.underlying t with
  | none=>rw [hu] at h;cases h
  | some d =>
    rw [hu] at h
    simp only [Sem.run_bind,Zk P w t hu,Result.andThen_ok]
    cases d<;>first
      | rfl
      | cases h
theorem ZiO {P:Program} {t xt:TypeId} {v:Value} {w:World} (h:ZeF (P.underlying t)=false):(Instr.typeAssert (.iface t v) xt t false).run P w = .ok v w:=by
  unfold Instr.typeAssert
  cases hu:P.underlying t with
  | none=>rw [hu] at h;cases h
  | some d =>
    rw [hu] at h
    simp only [Sem.run_bind,Zk P w t hu,Result.andThen_ok]
    cases d<;>first
      | (simp only [if_true];rfl)
      | cases h
theorem Ztz (hc:c.OK) (hag:Agr c.n e a) {cl:Call} {next:Act→World→Prop} {Q:Exit→Act→World→Prop} (hp9:∀ v w',Same w w'→c.pan v w'.heap→Q (.panic [{ v,recovered:=false }]) a w') (hk:Zi1 c (.call cl) e w.heap K)
    (hn:∀ v w',Same w w'→K v w'.heap→next (a.put dst v.v) w'):(⟨dst,.call cl,type,pos,after,guard⟩:Oper).wpIn (fen c.rnd) 0 c.P a w next Q:=by
  have hk0:=hk
  unfold Zi1 at hk
  split at hk
  ·rename_i args ts ho
   cases ho
   exact (Zpa hag hk0).val.wp hn
  ·rename_i args ts ho
   cases ho
   exact (Yt hag (.inr (.inl rfl)) hk0).val.wp hn
  ·rename_i args ts ho
   cases ho
   exact (Yt hag (.inr (.inr (.inl rfl))) hk0).val.wp hn
  ·rename_i args ts ho
   cases ho
   exact (Yt hag (.inr (.inr (.inr rfl))) hk0).val.wp hn
  ·
   rename_i args ts ho
   cases ho
   split at hk
   ·rename_i t ht hts
    split at hk
    ·rename_i el hu
     have hts':∀ u,ts[1]?=some u→∃ d,c.P.underlying u=some d∧∀ k,d≠ .int k:=by
       intro u h1
       simp only [h1] at hts
       split at hts
       ·cases hts
       ·rename_i d hne hd
        exact ⟨d,hd,fun k hk=>hne k hk⟩
       ·cases hts
     split at hk
     ·rename_i size bytes zs p n m p' n' m' hs hz hv
      have hargs:=ZbF hag hv
      obtain ⟨i,z,hi,hiz,rfl⟩:=ZbT hz
      obtain ⟨i',hi',rfl,rfl⟩:=Zdw hs
      rw [hi] at hi'
      cases hi'
      have hnew:∃ new,(∀ w':World,w'.heap=w.heap→(Builtin.firstCells i.size n' (.slice p' n' m')).run c.P w' = .ok new.toArray w')∧app el i.size i.bytes z.cells.toList ⟨p,n,m⟩ n' new w.heap fun s h'=>K (.val (.slice s.ptr s.len s.cap)) h':=by
        rcases hk with ⟨hp,hk⟩ | ⟨b,o,l,hp,hl,hh,hk⟩
        ·refine ⟨[],fun w' _=>?_,hk⟩
         simp only at hp
         rw [hp]
         cases p'<;>simp [Builtin.firstCells,loadCells,loadCellsFrom]
        ·refine ⟨l,fun w' hw=>?_,hk⟩
         simp only at hp hl
         rw [hp]
         simp only [Builtin.firstCells]
         rw [← hl]
         exact ZbX c.P w' b o l (by rw [hw];exact hh)
      obtain ⟨new,hnew,hk⟩:=hnew
      obtain ⟨s',w',hr,hs',hk⟩:=Zjd (P:=c.P) (ts:=ts) (rt:=type) (s:=⟨p,n,m⟩) (x:= .slice p' n' m') ht hts' hu hi hiz rfl hnew hk
      refine Val.wp (K:=K) ⟨.val (.slice s'.ptr s'.len s'.cap),w',?_,hs',hk⟩ hn
      refine YI (s:=Builtin.append_ ts type #[.slice p n m,.slice p' n' m']) (fun ty cs=>?_) hr
      rw [hargs];rfl
     ·rename_i size bytes zs p n m s hs hz hv
      have hargs:=ZbF hag hv
      obtain ⟨i,z,hi,hiz,rfl⟩:=ZbT hz
      obtain ⟨i',hi',rfl,rfl⟩:=Zdw hs
      rw [hi] at hi'
      cases hi'
      have hnew:∀ w':World,w'.heap=w.heap→(Builtin.firstCells i.size s.size (.string s)).run c.P w' = .ok (Zcq s).toArray w':=by
        intro w' _
        simp only [Builtin.firstCells,Sem.run_pure]
        congr 1
        apply Array.ext'
        simp [Zcq]
      obtain ⟨s',w',hr,hs',hk⟩:=Zjd (P:=c.P) (ts:=ts) (rt:=type) (s:=⟨p,n,m⟩) (x:= .string s) ht hts' hu hi hiz rfl hnew hk
      refine Val.wp (K:=K) ⟨.val (.slice s'.ptr s'.len s'.cap),w',?_,hs',hk⟩ hn
      refine YI (s:=Builtin.append_ ts type #[.slice p n m,.string s]) (fun ty cs=>?_) hr
      rw [hargs];rfl
     ·exact hk.elim
    ·exact hk.elim
   ·exact hk.elim
  ·
   rename_i x args ts ho
   cases ho
   split at hk
   ·split at hk
    ·rename_i v es hx hv
     obtain ⟨f,cs,s,t,hvv,hp,hk⟩:=Zhz hk
     have hx':a.eval x=Value.func (.func f) #[] ⟨cs⟩:=(hag.ev hx).trans hvv
     have hall:(args.map a.eval)++(⟨cs⟩:Array Value)=((Zrg es cs).map EV.v).toArray:=by
       rw [ZbF hag hv]
       simp [Zrg,Function.comp_def,EV.v]
     obtain ⟨hmem,ht⟩:=Zfd hp
     dsimp only at hmem ht
     obtain ⟨⟨fn,hf,hname,hbody⟩,hcall⟩:=hc.calls _ hmem
     have henter:(execOp a.eval ⟨dst,.call ⟨.value x,args,ts⟩,type,pos,after,guard⟩).run c.P w = .ok (.enter f ((args.map a.eval)++(⟨cs⟩:Array Value))) w:=by
       simp only [execOp,resolve,hx',Deferred.ofValue,Sem.run_bind,Sem.run_pure,Result.andThen_ok,invoke,callFunc,run_program,hf,hname,Bool.false_eq_true,if_false,hbody]
       simp
     refine Zj3 henter ?_
     rw [hall,← Zd1 ht]
     refine (hcall t _ _ w hk).mono ?_
     rintro ending w' (⟨r,rfl,hsame,hk⟩ | ⟨v,rfl,hsame,hk⟩)
     ·exact hn _ w' hsame hk
     ·exact hp9 v w' hsame hk
    ·exact hk.elim
   split at hk
   ·rename_i f cs hx
    split at hk
    ·rename_i es hv
     have hx':a.eval x=Value.func (.func f) #[] ⟨cs⟩:=hag.ev hx
     have hall:(args.map a.eval)++(⟨cs⟩:Array Value)=((Zrg es cs).map EV.v).toArray:=by
       rw [ZbF hag hv]
       simp [Zrg,Function.comp_def,EV.v]
     split at hk
     ·rename_i s t hp
      obtain ⟨hmem,ht⟩:=Zfd hp
      dsimp only at hmem ht
      obtain ⟨⟨fn,hf,hname,hbody⟩,hcall⟩:=hc.calls _ hmem
      have henter:(execOp a.eval ⟨dst,.call ⟨.value x,args,ts⟩,type,pos,after,guard⟩).run c.P w = .ok (.enter f ((args.map a.eval)++(⟨cs⟩:Array Value))) w:=by
        simp only [execOp,resolve,hx',Deferred.ofValue,Sem.run_bind,Sem.run_pure,Result.andThen_ok,invoke,callFunc,run_program,hf,hname,Bool.false_eq_true,if_false,hbody]
        simp
      refine Zj3 henter ?_
      rw [hall,← Zd1 ht]
      refine (hcall t _ _ w hk).mono ?_
      rintro ending w' (⟨r,rfl,hsame,hk⟩ | ⟨v,rfl,hsame,hk⟩)
      ·exact hn _ w' hsame hk
      ·exact hp9 v w' hsame hk
     ·cases hx9:ZtJ f c.ext with
      | false=>rw [hx9] at hk;exact hk.elim
      | true =>
        rw [hx9] at hk
        simp only [cond_true] at hk
        split at hk
        ·rename_i y hy0
         obtain ⟨t,b,es',cl,hy,hb,hk⟩:=hk
         obtain ⟨w',hrun,hsame,hw'⟩:=hc.ext f (ZmO hx9) t b es' cl w hb
         refine Val.wp (K:=K) ⟨.val (.iface t (.map (some w.heap.size))),w',?_,hsame,by rw [hw'];exact hk⟩ hn
         have hargs':(args.map a.eval)++(⟨cs⟩:Array Value) = #[.iface t (.map (some b))]:=by rw [hall,hy0];simp [hy]
         have hcap:(#[]++args.map a.eval)++(⟨cs⟩:Array Value) = #[.iface t (.map (some b))]:=by rw [Array.empty_append];exact hargs'
         simp only [execOp,resolve,hx',Deferred.ofValue,Sem.run_bind,Sem.run_pure,Result.andThen_ok,invoke,hcap]
         simpa [EV.v] using hrun
        ·exact hk.elim
    ·exact hk.elim
   ·rename_i l hx
    split at hk
    ·rename_i es hv
     have hx':a.eval x=Value.func (.yield l) #[] #[]:=hag.ev hx
     obtain ⟨fn,tmps,assign,body,hrun,hround⟩:=hc.yld l _ _ w hk
     refine ZqM (l:=l) (f:=fn) (tmps:=tmps) (assign:=assign) (body:=body) (k:=fun b w'=>Same w w'∧K (.val (.bool b)) w'.heap) ?_ hround fun b w' h=>hn _ w' h.1 h.2
     have hargs:args.map a.eval=(es.map EV.v).toArray:=ZbF hag hv
     simp only [execOp,resolve,hx',Deferred.ofValue,Sem.run_bind,Sem.run_pure,Result.andThen_ok,invoke,hargs]
     simpa using hrun
    ·exact hk.elim
   ·exact hk.elim
  ·
   rename_i args ts ho
   cases ho
   split at hk
   ·rename_i t m k ht hv
    split at hk
    ·rename_i kt et hu
     split at hk
     ·rename_i d hd
      obtain ⟨hkey,hk1⟩:=Zc0 hk
      clear hk
      have hargs:=ZbF hag hv
      obtain ⟨w',hr,hs',hk⟩:=Zne (P:=c.P) (ts:=ts) (ty:=type) ht hu hd hkey hk1
      refine Val.wp (K:=K) ⟨.val (.tuple #[]),w',?_,hs',hk⟩ hn
      refine YI (s:=Builtin.delete_ ts type #[.map m,k.v]) (fun ty cs=>?_) hr
      rw [hargs];rfl
     ·exact hk.elim
    ·exact hk.elim
   ·exact hk.elim
  ·
   rename_i x name args ts ho
   cases ho
   split at hk
   ·rename_i v es hx hv
    obtain ⟨t,f,p,y,hmem,hvv,hp,hk⟩:=Zlt hk
    have hm:Zm6 c.P name t f:=hc.dyn _ hmem
    obtain ⟨hcm,ht⟩:=Zgm hp
    obtain ⟨⟨fn,hf,hname,hbody⟩,hcall⟩:=hc.calls _ hcm
    dsimp only at hf hname hbody hcall
    have hx':a.eval x = .iface t (p.a0.ev y).v:=(hag.ev hx).trans hvv
    have hall:(#[(p.a0.ev y).v]:Array Value)++(args.map a.eval)=((Xa.evs (p.a0::p.rest) (y,p.t)).map EV.v).toArray:=by
      rw [ZbF hag hv]
      simp only [Xa.evs,List.map_cons,Zd1 ht]
      simp
    have henter:(execOp a.eval ⟨dst,.call ⟨.invoke x name,args,ts⟩,type,pos,after,guard⟩).run c.P w = .ok (.enter f ((#[(p.a0.ev y).v]:Array Value)++(args.map a.eval))) w:=by
      have hcut:((#[a.eval x]:Array Value)++args.map a.eval).extract 1 ((#[a.eval x]:Array Value)++args.map a.eval).size=args.map a.eval:=by
        apply Array.ext'
        simp only [Array.toList_extract,Array.toList_append,Array.size_append]
        simp
        rw [List.take_of_length_le (by simp)]
      have h0:((#[a.eval x]:Array Value)++args.map a.eval)[0]?=some (a.eval x):=by rw [← Array.getElem?_toList,Array.toList_append];rfl
      simp only [execOp,resolve,Sem.run_bind,Sem.run_pure,Result.andThen_ok,invoke,h0,hcut]
      rw [hx']
      have hm':=hm (p.a0.ev y).v w
      simp only [callMethod,Sem.run_bind,run_program,Result.andThen_ok]
      rw [hm']
      simp only [callFunc,Sem.run_bind,run_program,Result.andThen_ok,hf,hname,Bool.false_eq_true,if_false,hbody,Sem.run_pure]
    refine Zj3 henter ?_
    rw [hall]
    refine (hcall (y,p.t) _ _ w hk).mono ?_
    rintro ending w' (⟨r,rfl,hsame,hk⟩ | ⟨v,rfl,hsame,hk⟩)
    ·exact hn _ w' hsame hk
    ·exact hp9 v w' hsame hk
   ·exact hk.elim
  ·
   rename_i args ts ho
   cases ho
   split at hk
   ·rename_i t m ht hv
    split at hk
    ·rename_i kt et hu
     have hargs:=ZbF hag hv
     obtain ⟨w',hr,hs',hk⟩:=Zng (P:=c.P) (ts:=ts) (ty:=type) ht hu hk
     refine Val.wp (K:=K) ⟨.val (.tuple #[]),w',?_,hs',hk⟩ hn
     refine YI (s:=Builtin.clear_ ts type #[.map m]) (fun ty cs=>?_) hr
     rw [hargs];rfl
    ·exact hk.elim
   ·rename_i t q l m ht hv
    split at hk
    ·rename_i el hu
     split at hk
     ·rename_i zs hz
      have hargs:=ZbF hag hv
      obtain ⟨w',hr,hs',hk⟩:=Znf (P:=c.P) (ts:=ts) (ty:=type) ht hu hz hk
      refine Val.wp (K:=K) ⟨.val (.tuple #[]),w',?_,hs',hk⟩ hn
      refine YI (s:=Builtin.clear_ ts type #[.slice q l m]) (fun ty cs=>?_) hr
      rw [hargs];rfl
     ·exact hk.elim
    ·exact hk.elim
   ·exact hk.elim
  ·exact hk.elim
theorem Zm7 {P:Program} {t:TypeId} {z:Value} (h:ZsS P t=some z):∃ i,P.info? t=some i∧i.zero=some z:=by
  unfold ZsS at h
  split at h
  ·rename_i i hi
   exact ⟨i,hi,h⟩
  ·cases h
theorem Zm8 (hag:Agr c.n e a) {t:TypeId} {x i:Operand} {ok:Bool} (hk:opP c (.lookup t x i ok) e h K):Zmr c ⟨dst,.lookup t x i ok,type,pos,after,guard⟩ a h K:=by
  simp only [opP] at hk
  split at hk
  ·rename_i kt et m k hu hx hi
   split at hk
   ·rename_i d z hd hz
    obtain ⟨inf,hinf,hiz⟩:=Zm7 hz
    obtain ⟨r,hr,hk⟩:=ZlV (P:=c.P) hu hd hinf hiz hk
    obtain ⟨u,hu',hk⟩:=ZgA hk
    refine Zmr.of (v:=bif ok then .val (.tuple #[u.v,.bool r.isSome]) else u) (s:=Instr.lookup t (a.eval x) (a.eval i) ok) rfl (fun w hw=>?_) hk
    rw [hag.ev hx,hag.ev hi]
    have:=hr ok w hw
    rw [← hu'] at this
    cases ok<;>exact this
   ·exact hk.elim
  ·exact hk.elim
theorem Zld (hag:Agr c.n e a) {t:TypeId} {m k x:Operand} {next:Act→World→Prop} {Q:Exit→Act→World→Prop} (hk:opP c (.mapUpdate t m k x) e w.heap K)
    (hn:∀ v w',Same w w'→K v w'.heap→next (a.put dst v.v) w'):(⟨dst,.mapUpdate t m k x,type,pos,after,guard⟩:Oper).wpIn (fen c.rnd) 0 c.P a w next Q:=by
  simp only [opP] at hk
  split at hk
  ·rename_i kt et m' k' x' hu hm hkk hx
   split at hk
   ·rename_i d hd
    obtain ⟨w',hr,hs',hk⟩:=ZhN (P:=c.P) hu hd hk
    refine Zj2 (w':=w') ?_ (hn (.val undef) _ hs' hk)
    refine Zs0 (s:=Instr.mapUpdate t (a.eval m) (a.eval k) (a.eval x)) ?_
    rw [hag.ev hm,hag.ev hkk,hag.ev hx]
    exact hr
   ·exact hk.elim
  ·exact hk.elim
theorem Zp2 (hag:Agr c.n e a) {t:TypeId} {m k x:Operand} {next:Act→World→Prop} {Q:Exit→Act→World→Prop} (hk:opP c (.insert t m k x) e w.heap K)
    (hn:∀ v w',Same w w'→K v w'.heap→next (a.put dst v.v) w'):(⟨dst,.insert t m k x,type,pos,after,guard⟩:Oper).wpIn (fen c.rnd) 0 c.P a w next Q:=by
  simp only [opP] at hk
  split at hk
  ·rename_i kt et m' k' x' hu hm hkk hx
   split at hk
   ·rename_i d hd
    obtain ⟨w',hr,hs',hk⟩:=ZhN (P:=c.P) hu hd hk
    refine Zj2 (w':=w') ?_ (hn (.val undef) _ hs' hk)
    refine Zs0 (s:=Instr.mapUpdate t (a.eval m) (a.eval k) (a.eval x)) ?_
    rw [hag.ev hm,hag.ev hkk,hag.ev hx]
    exact hr
   ·exact hk.elim
  ·exact hk.elim
theorem ZgG (hag:Agr c.n e a) {t:TypeId} {x:Operand} (hk:opP c (.makeInterface t x) e h K):Zcr c ⟨dst,.makeInterface t x,type,pos,after,guard⟩ a h K:=by
  simp only [opP] at hk
  split at hk
  ·rename_i v hv
   cases hb:ZeF (c.P.underlying t) with
   | true=>rw [hb] at hk;exact hk.elim
   | false =>
     rw [hb] at hk
     refine Zcr.of (v:= .val (.iface t v.v)) (s:=Instr.makeInterface t (a.eval x)) rfl (fun w _=>?_) hk
     rw [hag.ev hv]
     exact ZgN hb
  ·exact hk.elim
theorem Ze4 (hag:Agr c.n e a) {f:Fn} {first caps:Array Operand} (hk:opP c (.makeFunc f first caps) e h K):Zcr c ⟨dst,.makeFunc f first caps,type,pos,after,guard⟩ a h K:=by
  cases f with
  | func g =>
    simp only [opP] at hk
    split at hk
    ·rename_i es hfi hv
     refine Zcr.of (v:= .val (.func (.func g) ⟨[]⟩ ⟨es.map EV.v⟩)) (s:=Instr.makeFunc (.func g) (first.map a.eval) (caps.map a.eval)) rfl (fun w _=>?_) hk
     have h1:first = #[]:=by apply Array.ext';exact hfi
     rw [ZbF hag hv,h1]
     simp [Instr.makeFunc,EV.v]
    ·exact hk.elim
  | _=>simp [opP] at hk
theorem ZhM {P:Program} {t xt:TypeId} {v:Value} {w:World} (h:ZeF (P.underlying t)=false):(Instr.typeAssert (.iface t v) xt t true).run P w = .ok (.tuple #[v,.bool true]) w:=by
  unfold Instr.typeAssert
  cases hu:P.underlying t with
  | none=>rw [hu] at h;cases h
  | some d =>
    rw [hu] at h
    simp only [Sem.run_bind,Zk P w t hu,Result.andThen_ok]
    cases d<;>first
      | (simp only [if_true];rfl)
      | cases h
theorem ZiM (hag:Agr c.n e a) {t xt:TypeId} {x:Operand} {ok:Bool} (hk:opP c (.typeAssert x xt t ok) e h K):Zcr c ⟨dst,.typeAssert x xt t ok,type,pos,after,guard⟩ a h K:=by
  simp only [opP] at hk
  split at hk
  ·rename_i v hv
   cases hb:ZeF (c.P.underlying t) with
   | true=>rw [hb] at hk;exact hk.elim
   | false =>
     rw [hb] at hk
     cases ok with
     | false =>
       obtain ⟨y,hy,hk⟩:=hk
       obtain ⟨u,hu',hk⟩:=ZiA hk
       refine Zcr.of (v:=u) (s:=Instr.typeAssert (a.eval x) xt t false) rfl (fun w _=>?_) hk
       rw [hag.ev hv,hy,hu']
       exact ZiO hb
     | true =>
       simp only [cond_false,cond_true] at hk
       split at hk
       ·rename_i t' u
        cases ht:Nat.beq t' t with
        | false=>rw [ht] at hk;exact hk.elim
        | true =>
          rw [ht] at hk
          have:=Nat.eq_of_beq_eq_true ht
          subst this
          refine Zcr.of (v:= .val (.tuple #[u,.bool true])) (s:=Instr.typeAssert (a.eval x) xt t' true) rfl (fun w _=>?_) hk
          rw [hag.ev hv]
          exact ZhM hb
       ·exact hk.elim
  ·exact hk.elim
theorem Zo9 (hag:Agr c.n e a) {t:TypeId} {x:Operand} (hk:opP c (.range t x) e w.heap K):Val c ⟨dst,.range t x,type,pos,after,guard⟩ a w K:=by
  simp only [opP] at hk
  split at hk
  ·rename_i kt et m hu hx
   cases m with
   | none =>
     refine Val.of (v:= .itr t w.heap.size) (w':=w.alloc (.mapIter none 0 #[] 0)) (s:=Instr.range t (a.eval x)) rfl ?_ ⟨rfl,rfl,rfl⟩ (hk.1 rfl)
     rw [hag.ev hx]
     exact run_range_nilMap w t _ _ hu
   | some b =>
     obtain ⟨es,cl,hb,hk⟩:=hk.2 b rfl
     refine Val.of (v:= .itr t w.heap.size) (w':=w.alloc (.mapIter (some b) cl #[] cl)) (s:=Instr.range t (a.eval x)) rfl ?_ ⟨rfl,rfl,rfl⟩ hk
     rw [hag.ev hx]
     exact run_range_map w t _ _ b es cl hu hb
  ·exact hk.elim
theorem ZqP (hag:Agr c.n e a) {x:Operand} {q:Bool} (hk:opP c (.next x q) e w.heap K):Val c ⟨dst,.next x q,type,pos,after,guard⟩ a w K:=by
  cases q with
  | true=>exact hk.elim
  | false =>
    simp only [opP] at hk
    split at hk
    ·rename_i t b hx
     have hx':a.eval x = .pointer (some ⟨b,0,none⟩):=hag.ev hx
     rcases hk with ⟨s,seen,cc,hb,hk⟩ | ⟨bm,since,seen,c0,es,clock,hr,hb,hold,hsc,hF,hT⟩
     ·refine Val.of (v:= .over) (w':=w) (s:=Instr.next (a.eval x) false type) rfl ?_ (Same.refl w) hk
      rw [hx']
      simp [Instr.next,getObj,Sem.run,hb,Result.andThen,EV.v]
     ·rcases run_next_at (P:=c.P) w type b bm since c0 seen es clock hr hb hold hsc with ⟨h0,hrun⟩ | ⟨en,hen,w1,hw1,hrun⟩
      ·refine Val.of (v:= .over) (w':=w) (s:=Instr.next (a.eval x) false type) rfl ?_ (Same.refl w) (hF h0)
       rw [hx']
       exact hrun
      ·have hh:w1.heap=w.heap:=by rcases hw1 with rfl | rfl<;>rfl
       have hsm:Same w w1:=by rcases hw1 with rfl | rfl<;>exact ⟨rfl,rfl,rfl⟩
       refine Val.of (v:= .more en.key en.val) (w':=ChangeMaps.setBlock w1 b (.mapIter (some bm) since (seen.push en.born) clock)) (s:=Instr.next (a.eval x) false type) rfl ?_ ⟨hsm.1,hsm.2.1,hsm.2.2⟩ ?_
       ·rw [hx']
        exact hrun
       ·have:=hT en hen
        rw [← hh] at this
        exact this
    ·exact hk.elim
theorem Zpb (hag:Agr c.n e a) {x:Operand} (hk:opP c (.entry x) e h K):Zmr c ⟨dst,.entry x,type,pos,after,guard⟩ a h K:=by
  simp only [opP] at hk
  split at hk
  ·rename_i t b hx
   have hx':a.eval x = .pointer (some ⟨b,0,none⟩):=hag.ev hx
   split at hk
   ·rename_i kt et hu
    obtain ⟨bm,since,seen,es,clock,en,hr,hb,hen,hnd,hk⟩:=hk
    obtain ⟨k',hk',hk⟩:=ZgA hk
    obtain ⟨v',hv',hk⟩:=ZgA hk
    refine Zmr.of (v:= .val (.tuple #[k'.v,v'.v])) (s:=Instr.entry (a.eval x)) rfl (fun w hw=>?_) hk
    subst hw
    rw [hx',hk',hv']
    exact run_entry_at (P:=c.P) w b bm since seen es clock en hr hb hen hnd
   ·exact hk.elim
  ·exact hk.elim
theorem ZqQ (hag:Agr c.n e a) {t:TypeId} {x y:Operand} {next:Act→World→Prop} {Q:Exit→Act→World→Prop} (hk:opP c (.store t x y) e w.heap K)
    (hn:∀ v w',Same w w'→K v w'.heap→next (a.put dst v.v) w'):(⟨dst,.store t x y,type,pos,after,guard⟩:Oper).wpIn (fen c.rnd) 0 c.P a w next Q:=by
  simp only [opP] at hk
  split at hk
  ·rename_i u v hu hv
   obtain ⟨b,o,hp,hk⟩:=ZfJ hk
   obtain ⟨h',hr,hk⟩:=ZqR hk
   refine Zj2 (w':={ w with heap:=h' }) ?_ (hn (.val undef) _ ⟨rfl,rfl,rfl⟩ hk)
   refine Zs0 (s:=Instr.storeAt t (a.eval x) (a.eval y)) ?_
   rw [hag.ev hu,hag.ev hv,hp]
   exact ZlU hr
  ·exact hk.elim
theorem ZmI (hc:c.OK) (hag:Agr c.n e a) {o:Oper} {next:Act→World→Prop} {Q:Exit→Act→World→Prop} (hp9:∀ v w',Same w w'→c.pan v w'.heap→Q (.panic [{ v,recovered:=false }]) a w') (hk:opP c o.op e w.heap K)
    (hn:∀ v w',Same w w'→K v w'.heap→next (a.put o.dst v.v) w'):o.wpIn (fen c.rnd) 0 c.P a w next Q:=by
  obtain ⟨dst,op,type,pos,after,guard⟩:=o
  cases op
  case panic x =>
    have hk:(match e.ev x with | some (.val (.iface t v))=>c.pan (.iface t v) w.heap | _=>False):=hk
    split at hk
    ·rename_i t v hx
     refine ZqN (fun _ h=>by cases h) (v:= .iface t v) ?_ (hp9 _ w (Same.refl w) hk)
     have hx':a.eval x = .iface t v:=hag.ev hx
     simp only [execOp,hx',Instr.panic,Sem.run_bind]
     rfl
    ·exact hk.elim
  case move=>exact (Zj6 hag hk).val.wp hn
  case assign=>exact (ZgH hag hk).val.wp hn
  case pick=>exact (Zj5 hag hk).val.wp hn
  case alloc=>exact (Zpc hk).wp hn
  case box=>exact (ZsW hag hk).wp hn
  case build=>exact (ZhI hag hk).val.wp hn
  case buildSlice=>exact (ZiN hag hk).wp hn
  case load=>exact (Zj8 hag hk).val.wp hn
  case store=>exact ZqQ hag hk hn
  case nilCheck=>exact (Ze3 hag hk).val.wp hn
  case binOp=>exact (ZhJ hag hk).val.wp hn
  case unOp=>exact (Zj4 hag hk).val.wp hn
  case convert=>exact (ZlQ hag hk).wp hn
  case makeSlice=>exact (Zj7 hag hk).wp hn
  case slice=>exact (ZhF hag hk).val.wp hn
  case fieldAddr=>exact (Zey hag hk).val.wp hn
  case field=>exact (ZhH hag hk).val.wp hn
  case indexAddr=>exact (Zex hag hk).val.wp hn
  case index=>exact (ZhG hag hk).val.wp hn
  case extract=>exact (ZfW hag hk).val.wp hn
  case call=>exact Ztz hc hag hp9 hk hn
  case makeMap t r =>
    cases r with
    | some x=>exact hk.elim
    | none=>exact (Val.of (v:= .val (.map (some w.heap.size))) (w':={ w with heap:=w.heap.push (.map #[] 0)}) (s:=Instr.makeMap t none) rfl rfl ⟨rfl,rfl,rfl⟩ hk).wp hn
  case lookup=>exact (Zm8 hag hk).val.wp hn
  case mapUpdate=>exact Zld hag hk hn
  case insert=>exact Zp2 hag hk hn
  case range=>exact (Zo9 hag hk).wp hn
  case next=>exact (ZqP hag hk).wp hn
  case entry=>exact (Zpb hag hk).val.wp hn
  case makeInterface=>exact (ZgG hag hk).val.wp hn
  case makeFunc=>exact (Ze4 hag hk).val.wp hn
  case typeAssert=>exact (ZiM hag hk).val.wp hn
  all_goals exact hk.elim
theorem Zvu (hc:c.OK) (hag:Agr c.n e a) {o:Oper} {next:Act→World→Prop} {Q:Exit→Act→World→Prop} (hp9:∀ v w',Same w w'→c.pan v w'.heap→Q (.panic [{ v,recovered:=false }]) a w') (hk:opQ c o e w.heap K)
    (hn:∀ v w',Same w w'→K v w'.heap→next (a.put o.dst v.v) w'):o.wpIn (fen c.rnd) 0 c.P a w next Q:=by
  obtain ⟨dst,op,type,pos,after,guard⟩:=o
  cases op
  case assign x =>
    have hk:(bif ZpX (c.P.underlying type) then (match e.ev x with
      | some v=>K v w.heap
      | none=>False) else opP c (.assign x) e w.heap K):=hk
    cases hb:ZpX (c.P.underlying type) with
    | false =>
      rw [hb] at hk
      exact ZmI hc hag (o:=⟨dst,.assign x,type,pos,after,guard⟩) hp9 hk hn
    | true =>
      rw [hb] at hk
      simp only [cond_true] at hk
      split at hk
      ·rename_i v hv
       have hp:Zcr c ⟨dst,.assign x,type,pos,after,guard⟩ a w.heap K:=⟨v,fun w hw=>by simp [execOp,hag.ev hv],hk⟩
       exact hp.val.wp hn
      ·exact hk.elim
  all_goals exact ZmI hc hag (o:=⟨dst,_,type,pos,after,guard⟩) hp9 hk hn
end
abbrev ZgE:=List (Nat × (World→Prop))
def ZgE.all (L:ZgE) (w:World):Prop:=∀ p,p∈L→p.2 w
def ZgE.waits (ops:Array Oper) (j i:Nat):Prop:=∃ o,ops[j]?=some o∧∃ e∈o.after,Region.binds .any e=true∧e.on=i
def ZdG (ops:Array Oper):Prop:=∀ (j:Nat) (o:Oper),ops[j]?=some o→∀ c,o.op≠ .defer c
theorem Znn {ops:Array Oper} (h:Zgp ops.toList=true):ZdG ops:=by
  have key:∀ (l:List Oper),Zgp l=true→∀ (j:Nat) (o:Oper),l[j]?=some o→∀ c,o.op≠ .defer c:=by
    intro l
    induction l with
    | nil=>intro _ j o ho;simp at ho
    | cons x xs ih =>
      intro h j o ho c hc
      simp only [Zgp] at h
      cases hd:Zp0 x.op with
      | true=>rw [hd] at h;cases h
      | false =>
        rw [hd] at h
        cases j with
        | zero=>simp at ho;subst ho;rw [hc] at hd;cases hd
        | succ j=>exact ih h j o (by simpa using ho) c hc
  intro j o ho
  exact key _ h j o (by simpa using ho)
def wpK (rn:Option Nat) (P:Program) (ops:Array Oper) (Q:Exit→Act→World→Prop) (nx:ZgE→Nat→ZgE):ZgE→Nat→Array Bool→Act→World→Prop
  | _,0,listed,a,w=>Region.ready .any ops listed=[]∧Q .normal a w
  | L,fuel+1,listed,a,w =>
    (Region.ready .any ops listed=[]→Q .normal a w) ∧
    ∀ i∈Region.ready .any ops listed,wpOpIn (fen rn) 0 P ops Q i (fun a' w'=>(nx L i).all w'∧wpK rn P ops Q nx (nx L i) fuel (listed.setIfInBounds i true) a' w') a w
theorem ZdS {rn:Option Nat} {P:Program} {ops:Array Oper} {Q:Exit→Act→World→Prop} {S:World→Prop} {i:Nat} {o:Oper} {v:Value} {a:Act} (hnd:ZdG ops) (hi:ops[i]?=some o) (hy:YieldsIf P ops S o v a)
    {K:Act→World→Prop} {w:World} (hS:S w) (h:K (a.put o.dst v) w):wpOpIn (fen rn) 0 P ops Q i K a w:=by
  unfold Go.wpOpIn
  simp only [hi]
  rcases hy with ⟨hw,hv⟩ | ⟨hw,rfl⟩
  ·simp only [hw,if_true]
   exact ZrC (hv w hS) h
  ·simp only [hw,Bool.false_eq_true,if_false];exact ⟨fun _ _=>trivial,h⟩
theorem ZlP {rn:Option Nat} {P:Program} {ops:Array Oper} {Q:Exit→Act→World→Prop} {S:World→Prop} (hnd:ZdG ops) {j:Nat} {oi oj:Oper} {v:Value} (hj:ops[j]?=some oj) (hap:oi.apart ops oj=true)
    (hsi:∀ cs b,oi.op≠ .select cs b) (hsj:∀ cs b,oj.op≠ .select cs b)
    (hQ:∀ c a w,Q (.panic c) (a.put oi.dst v) w→Q (.panic c) a w) {K:Act→World→Prop} {a:Act} {w:World}
    (hy:YieldsIf P ops S oi v a) (h:wpOpIn (fen rn) 0 P ops Q j K (a.put oi.dst v) w) :
    wpOpIn (fen rn) 0 P ops Q j (fun a' w'=>YieldsIf P ops S oi v a'∧K (a'.put oi.dst v) w') a w:=by
  obtain ⟨h1,h2,h3⟩:=Oper.apart_spec hap
  have keep:∀ (a:Act),YieldsIf P ops S oi v a→∀ u,YieldsIf P ops S oi v (a.put oj.dst u):=fun a hy u =>
    hy.of_same (execOp_put oi hsi a oj.dst u h3) (wanted_put oi a oj.dst u h3)
  have keepD:∀ d,YieldsIf P ops S oi v { a with defers:=d::a.defers }:=fun d=>hy.of_same rfl rfl
  have hndj:=hnd j oj hj
  unfold wpOpIn at *
  simp only [hj] at *
  rw [wanted_put oj a oi.dst v h1] at h
  split
  ·rename_i hw
   simp only [hw,if_true] at h
   unfold Oper.wpIn at *
   refine ⟨fun _ _=>trivial,?_⟩
   have h:=h.2
   rw [Oper.semAt_eq _ _ _ hndj,execOp_put oj hsj a oi.dst v h1] at h
   rw [Oper.semAt_eq _ _ _ hndj]
   generalize (execOp a.eval oj).run P w=r at *
   cases r with
   | ok x w' =>
     cases x<;>simp only [Oper.uponIn] at h ⊢
     case value u=>exact ⟨keep a hy u,by rw [← Act.put_comm a v u h2];exact h⟩
     case skip=>exact ⟨keep a hy _,by rw [← Act.put_comm a v undef h2];exact h⟩
     case defer d =>
       refine ⟨keep _ (keepD d) _,?_⟩
       rw [← Act.put_comm _ v undef h2,← Act.put_defers]
       exact h
     case enter f args =>
       refine ⟨h.1,CallsIn.mono h.2 fun e w'' he=>?_⟩
       cases e with
       | returned u=>exact ⟨keep a hy u,by rw [← Act.put_comm a v u h2];exact he⟩
       | panicked c=>exact hQ _ _ _ he
       | outgrown=>exact he
     case row row args=>exact ⟨h.1,RowsIn.mono h.2 fun u w'' he=>⟨keep a hy u,by rw [← Act.put_comm a v u h2];exact he⟩⟩
     case round l f tmps assign body =>
       refine ⟨h.1,RoundIn.mono h.2 fun e w'' he=>?_⟩
       cases e with
       | returned u=>exact ⟨keep a hy u,by rw [← Act.put_comm a v u h2];exact he⟩
       | panicked c=>exact hQ _ _ _ he
       | outgrown=>exact he
   | halt x w' =>
     cases x<;>simp only [Oper.uponIn] at h ⊢
     case panic u=>exact hQ _ _ _ h
  ·rename_i hw
   simp only [hw] at h
   exact ⟨fun _ _=>trivial,keep a hy _,by rw [← Act.put_comm a v undef h2];exact h.2⟩
section
variable {rn:Option Nat} {P:Program} {ops:Array Oper} {Q:Exit→Act→World→Prop} {nx:ZgE→Nat→ZgE}
theorem Zo8:∀ (fuel:Nat) (L:ZgE) (listed:Array Bool) (a:Act) (w:World),wpK rn P ops Q nx L fuel listed a w→wpAnyIn (fen rn) 0 P .any ops Q fuel listed a w
  | 0,_,_,_,_,h=>h
  | fuel+1,_,_,_,_,h=>⟨h.1,fun i hi=>wpOpIn_mono (fun a' w' h'=>Zo8 fuel _ _ a' w' h'.2) (h.2 i hi)⟩
structure Next (ops:Array Oper) (nx:ZgE→Nat→ZgE):Prop where
  mem:∀ L j p,p∈nx L j→p∈L
  keep:∀ L j p,p∈L→¬ ZgE.waits ops j p.1→p∈nx L j
  same:∀ L L' j p,p∈nx L' j→p∈L→p∈nx L j
theorem Zev (hn:Next ops nx):∀ (fuel:Nat) (L L':ZgE) (listed:Array Bool) (a:Act) (w:World),(∀ p,p∈L'→p∈L∨∀ w,p.2 w) →
    wpK rn P ops Q nx L fuel listed a w→wpK rn P ops Q nx L' fuel listed a w
  | 0,_,_,_,_,_,_,h=>h
  | fuel+1,L,L',_,_,_,hs,h=>⟨h.1,fun i hi=>wpOpIn_mono (fun a' w' h'=>by
      have hs':∀ p,p∈nx L' i→p∈nx L i∨∀ w,p.2 w:=fun p hp=>(hs p (hn.mem _ _ _ hp)).imp (hn.same L L' i p hp) id
      exact ⟨fun p hp=>(hs' p hp).elim (h'.1 p) (fun h=>h w'),Zev hn fuel _ _ _ _ _ hs' h'.2⟩) (h.2 i hi)⟩
theorem Zo7 (hnd:ZdG ops) (hn:Next ops nx) {i:Nat} {oi:Oper} {v:Value} {S:World→Prop} (hi:ops[i]?=some oi) (hsel:∀ (j:Nat) (o:Oper) cs b,ops[j]?=some o→o.op≠ .select cs b)
    (hQ:∀ c a w,Q (.panic c) (a.put oi.dst v) w→Q (.panic c) a w) :
    ∀ (fuel:Nat) (L:ZgE) (listed:Array Bool) (a:Act) (w:World),
      (∀ j oj,ops[j]?=some oj→j≠i→listed.getD j true=false→(∀ e∈oj.after,Region.binds .any e=true→e.on≠i)→oi.apart ops oj=true) →
      i∈Region.ready .any ops listed→YieldsIf P ops S oi v a→S w→ZgE.all L w →
      wpK rn P ops Q nx ((i,S)::L) fuel (listed.setIfInBounds i true) (a.put oi.dst v) w→wpK rn P ops Q nx L (fuel+1) listed a w:=by
  intro fuel
  induction fuel with
  | zero =>
    intro L listed a w _ hr hy hS hL H
    refine ⟨fun h=>(by rw [h] at hr;cases hr),fun j hj=>?_⟩
    by_cases hji:j=i
    ·subst hji
     exact ZdS hnd hi hy hS ⟨fun p hp=>hL p (hn.mem _ _ _ hp),H⟩
    ·have:=ready_mono hj hji
     rw [H.1] at this
     cases this
  | succ fuel ih =>
    intro L listed a w hfree hr hy hS hL H
    refine ⟨fun h=>(by rw [h] at hr;cases hr),fun j hj=>?_⟩
    by_cases hji:j=i
    ·subst hji
     exact ZdS hnd hi hy hS ⟨fun p hp=>hL p (hn.mem _ _ _ hp),Zev hn _ _ _ _ _ _ (fun p hp=> .inl (.tail _ (hn.mem _ _ _ hp))) H⟩
    ·have h1:=H.2 j (ready_mono hj hji)
     obtain ⟨hjun,oj,hoj,hall⟩:=mem_ready.1 hj
     have hnot:∀ e∈oj.after,Region.binds .any e=true→e.on≠i:=fun e he hb heq=>by
       have h1:=hall e he hb
       have h0:=(mem_ready.1 hr).1
       rw [heq] at h1
       rcases Nat.lt_or_ge i listed.size with h' | h'
       ·simp [h'] at h0 h1;rw [h0] at h1;cases h1
       ·simp [Array.getElem?_eq_none h'] at h1
     have h2:=ZlP hnd hoj (hfree j oj hoj hji hjun hnot) (fun cs b=>hsel i oi cs b hi) (fun cs b=>hsel j oj cs b hoj) hQ hy h1
     have hfree':∀ k ok,ops[k]?=some ok→k≠i→(listed.setIfInBounds j true).getD k true=false →
         (∀ e∈ok.after,Region.binds .any e=true→e.on≠i)→oi.apart ops ok=true:=fun k ok hk hki hun hno=>by
       refine hfree k ok hk hki ?_ hno
       by_cases hjk:j=k
       ·subst hjk;exact hjun
       ·rw [getD_set_ne true hjk] at hun;exact hun
     have hmem:((i,S):Nat × (World→Prop))∈nx ((i,S)::L) j:=by
       refine hn.keep _ _ _ (.head _) ?_
       rintro ⟨o',ho',e,he,hb,hon⟩
       rw [hoj] at ho'
       cases ho'
       exact hnot e he hb hon
     refine wpOpIn_mono (fun a' w' h3=>?_) h2
     obtain ⟨hy',hall',hrest⟩:=h3
     have hL':ZgE.all (nx L j) w':=fun p hp=>hall' p (hn.same _ _ _ _ hp (.tail _ (hn.mem _ _ _ hp)))
     refine ⟨hL',ih (nx L j) (listed.setIfInBounds j true) a' w' hfree' (ready_mono hr (Ne.symm hji)) hy' (hall' _ hmem) hL' ?_⟩
     rw [Array.setIfInBounds_comm _ _ hji]
     refine Zev hn _ _ _ _ _ _ (fun p hp=> .inl ?_) hrest
     rcases List.mem_cons.1 hp with rfl | hp
     ·exact hmem
     ·exact hn.same _ _ _ _ hp (.tail _ (hn.mem _ _ _ hp))
theorem ZmB {i:Nat} {fuel:Nat} {L:ZgE} {listed:Array Bool} {a:Act} {w:World} (hr:∀ j,j∈Region.ready .any ops listed→j=i) (hm:i∈Region.ready .any ops listed)
    (h:wpOpIn (fen rn) 0 P ops Q i (fun a' w'=>(nx L i).all w'∧wpK rn P ops Q nx (nx L i) fuel (listed.setIfInBounds i true) a' w') a w):wpK rn P ops Q nx L (fuel+1) listed a w :=
  ⟨fun h0=>(by rw [h0] at hm;cases hm),fun j hj=>(hr j hj)▸h⟩
theorem ZsV {i j:Nat} {fuel:Nat} {L:ZgE} {listed:Array Bool} {a:Act} {w:World} (hr:∀ k,k∈Region.ready .any ops listed→k=i∨k=j) (hm:i∈Region.ready .any ops listed)
    (h1:wpOpIn (fen rn) 0 P ops Q i (fun a' w'=>(nx L i).all w'∧wpK rn P ops Q nx (nx L i) fuel (listed.setIfInBounds i true) a' w') a w)
    (h2:wpOpIn (fen rn) 0 P ops Q j (fun a' w'=>(nx L j).all w'∧wpK rn P ops Q nx (nx L j) fuel (listed.setIfInBounds j true) a' w') a w):wpK rn P ops Q nx L (fuel+1) listed a w :=
  ⟨fun h0=>(by rw [h0] at hm;cases hm),fun k hk=>(hr k hk).elim (fun e=>e▸h1) (fun e=>e▸h2)⟩
theorem ZqO {L:ZgE} {listed:Array Bool} {a:Act} {w:World} (hr:Region.ready .any ops listed=[]) (h:Q .normal a w) :
    ∀ fuel,wpK rn P ops Q nx L fuel listed a w
  | 0=>⟨hr,h⟩
  | _+1=>⟨fun _=>h,by rw [hr];simp⟩
end
theorem Zmo (m i:Nat):Zef m i=m.testBit i:=by
  unfold Zef Nat.testBit
  have:Nat.land (Nat.shiftRight m i) 1=1 &&& (m >>> i):=by rw [Nat.and_comm];rfl
  rw [this]
  have h2:(1 &&& (m >>> i))<2:=by rw [Nat.and_comm,Nat.and_one_is_mod];omega
  generalize (1 &&& (m >>> i))=x at h2
  have:x=0∨x=1:=by omega
  rcases this with rfl | rfl<;>rfl
theorem ZkG (m i j:Nat):Zef (Zke m i) j=(Zef m j||decide (j=i)):=by
  rw [Zmo,Zmo]
  have:Zke m i=m ||| (1 <<< i):=rfl
  rw [this,Nat.testBit_or,Nat.one_shiftLeft,Nat.testBit_two_pow]
  congr 1
  exact decide_eq_decide.2 ⟨fun h=>h.symm,fun h=>h.symm⟩
theorem Zdz {m:Nat}:∀ {es:List Edge},ZjJ m es=true↔∀ e∈es,Region.binds .any e=true→Zef m e.on=true
  | []=>by simp [ZjJ]
  | e::es=>by
    simp only [ZjJ,List.forall_mem_cons]
    cases hb:Region.binds .any e with
    | false=>simp only [cond_false,Zdz];simp
    | true =>
      cases hm:Zef m e.on with
      | false=>simp
      | true=>simp only [cond_true,Zdz];simp
theorem ZfC {i:Nat}:∀ {es:List Edge},ZdA i es=true↔∃ e,e∈es∧Region.binds .any e=true∧e.on=i
  | []=>by simp [ZdA]
  | e::es=>by
    have ih:=ZfC (i:=i) (es:=es)
    simp only [ZdA]
    cases hb:Nat.beq e.on i with
    | false =>
      have hne:=Nat.ne_of_beq_eq_false hb
      simp only [cond_false,ih]
      constructor
      ·rintro ⟨x,hx,h⟩;exact ⟨x,.tail _ hx,h⟩
      ·rintro ⟨x,hx,h⟩
       rcases List.mem_cons.1 hx with rfl | hx
       ·exact absurd h.2 hne
       ·exact ⟨x,hx,h⟩
    | true =>
      have heq:=Nat.eq_of_beq_eq_true hb
      simp only [cond_true]
      cases hr:Region.binds .any e with
      | true=>simp only [cond_true,true_iff];exact ⟨e,.head _,hr,heq⟩
      | false =>
        simp only [cond_false,ih]
        constructor
        ·rintro ⟨x,hx,h⟩;exact ⟨x,.tail _ hx,h⟩
        ·rintro ⟨x,hx,h⟩
         rcases List.mem_cons.1 hx with rfl | hx
         ·rw [hr] at h;cases h.1
         ·exact ⟨x,hx,h⟩
structure Rel (ops:Array Oper) (m:Nat) (listed:Array Bool):Prop where
  size:listed.size=ops.size
  bit:∀ j,listed.getD j false=Zef m j
theorem Rel.zero (ops:Array Oper):Rel ops 0 (Array.replicate ops.size false) where
  size:=by simp
  bit j:=by
    rw [Zmo,Nat.zero_testBit]
    rw [Array.getD_eq_getD_getElem?,Array.getElem?_replicate]
    split<;>rfl
theorem Rel.set {ops:Array Oper} {m:Nat} {listed:Array Bool} (h:Rel ops m listed) {i:Nat} (hi:i<ops.size):Rel ops (Zke m i) (listed.setIfInBounds i true) where
  size:=by simp [h.size]
  bit j:=by
    rw [ZkG,← h.bit j]
    by_cases hj:j=i
    ·subst hj
     have:j<listed.size:=by rw [h.size];exact hi
     simp [Array.getD_eq_getD_getElem?,this]
    ·simp [Array.getD_eq_getD_getElem?,Ne.symm hj,hj]
theorem Rel.bit' {ops:Array Oper} {m:Nat} {listed:Array Bool} (h:Rel ops m listed) {j:Nat} (hj:j<ops.size):listed.getD j true=Zef m j:=by
  rw [← h.bit j]
  have:j<listed.size:=by rw [h.size];exact hj
  simp [Array.getD_eq_getD_getElem?,this]
theorem Rel.ready {ops:Array Oper} {m:Nat} {listed:Array Bool} (h:Rel ops m listed) {j:Nat}:j∈Region.ready .any ops listed↔∃ o,ops[j]?=some o∧Zbe m j o=true:=by
  rw [mem_ready]
  constructor
  ·rintro ⟨h0,o,ho,hall⟩
   refine ⟨o,ho,?_⟩
   have hj:j<ops.size:=by
     rcases Nat.lt_or_ge j ops.size with h | h
     ·exact h
     ·rw [Array.getElem?_eq_none h] at ho;cases ho
   unfold Zbe
   rw [← h.bit' hj,h0]
   simp only [cond_false]
   exact Zdz.2 fun e he hb=>by rw [← h.bit];exact hall e (by simpa using he) hb
  ·rintro ⟨o,ho,hr⟩
   have hj:j<ops.size:=by
     rcases Nat.lt_or_ge j ops.size with h | h
     ·exact h
     ·rw [Array.getElem?_eq_none h] at ho;cases ho
   unfold Zbe at hr
   cases hb:Zef m j with
   | true=>rw [hb] at hr;cases hr
   | false =>
     rw [hb] at hr
     simp only [cond_false] at hr
     exact ⟨by rw [h.bit' hj,hb],o,ho,fun e he hb=>by rw [h.bit];exact Zdz.1 hr e (by simpa using he) hb⟩
theorem ZgT {m i:Nat}:∀ {os:List Oper} {k:Nat},Zgn m i k os=true→∀ j o,os[j]?=some o→Zbe m (k+j) o=true→k+j=i
  | [],k,_,j,o,ho,_=>by simp at ho
  | x::os,k,h,j,o,ho,hr=>by
    simp only [Zgn] at h
    cases hb:Nat.beq k i with
    | true =>
      rw [hb] at h
      cases j with
      | zero=>exact Nat.eq_of_beq_eq_true hb
      | succ j =>
        have:=ZgT (k:=k+1) h j o (by simpa using ho) (by rw [show k+1+j=k+(j+1) from by omega];exact hr)
        omega
    | false =>
      rw [hb] at h
      simp only [cond_false] at h
      cases hx:Zbe m k x with
      | true=>rw [hx] at h;cases h
      | false =>
        rw [hx] at h
        cases j with
        | zero =>
          simp at ho
          subst ho
          rw [Nat.add_zero,hx] at hr
          cases hr
        | succ j =>
          have:=ZgT (k:=k+1) h j o (by simpa using ho) (by rw [show k+1+j=k+(j+1) from by omega];exact hr)
          omega
theorem ZfZ {m i l:Nat}:∀ {os:List Oper} {k:Nat},Zjh m i l k os=true→∀ j o,os[j]?=some o→Zbe m (k+j) o=true→k+j=i∨k+j=l
  | [],k,_,j,o,ho,_=>by simp at ho
  | x::os,k,h,j,o,ho,hr=>by
    simp only [Zjh] at h
    cases hb:(Nat.beq k i||Nat.beq k l) with
    | true =>
      rw [hb] at h
      cases j with
      | zero =>
        rw [Bool.or_eq_true] at hb
        exact hb.imp Nat.eq_of_beq_eq_true Nat.eq_of_beq_eq_true
      | succ j =>
        have:=ZfZ (k:=k+1) h j o (by simpa using ho) (by rw [show k+1+j=k+(j+1) from by omega];exact hr)
        omega
    | false =>
      rw [hb] at h
      simp only [cond_false] at h
      cases hx:Zbe m k x with
      | true=>rw [hx] at h;cases h
      | false =>
        rw [hx] at h
        cases j with
        | zero =>
          simp at ho
          subst ho
          rw [Nat.add_zero,hx] at hr
          cases hr
        | succ j =>
          have:=ZfZ (k:=k+1) h j o (by simpa using ho) (by rw [show k+1+j=k+(j+1) from by omega];exact hr)
          omega
theorem ZjE {ops:Array Oper} {oi:Oper} {m i:Nat}:∀ {os:List Oper} {k:Nat},ZiV ops oi m i k os=true→∀ j o,os[j]?=some o→k+j≠i→Zef m (k+j)=false →
    (∀ e∈o.after,Region.binds .any e=true→e.on≠i)→oi.apart ops o=true
  | [],k,_,j,o,ho,_,_,_=>by simp at ho
  | x::os,k,h,j,o,ho,hne,hbit,hno=>by
    simp only [ZiV] at h
    generalize hc:(bif Nat.beq k i then true else bif Zef m k then true else bif ZdA i x.after.toList then true else oi.apart ops x)=c at h
    cases c with
    | false=>cases h
    | true =>
      simp only [cond_true] at h
      cases j with
      | succ j=>exact ZjE (k:=k+1) h j o (by simpa using ho) (by omega) (by rw [show k+1+j=k+(j+1) from by omega];exact hbit) hno
      | zero =>
        simp at ho
        subst ho
        have hb:Nat.beq k i=false:=by
          cases hb:Nat.beq k i with
          | false=>rfl
          | true=>exact absurd (Nat.eq_of_beq_eq_true hb) (by simpa using hne)
        rw [Nat.add_zero] at hbit
        rw [hb,hbit] at hc
        simp only [cond_false] at hc
        cases hw:ZdA i x.after.toList with
        | true =>
          obtain ⟨e,he,hb,hon⟩:=ZfC.1 hw
          exact absurd hon (hno e (by simpa using he) hb)
        | false=>rw [hw] at hc;exact hc
end Go.Fw
