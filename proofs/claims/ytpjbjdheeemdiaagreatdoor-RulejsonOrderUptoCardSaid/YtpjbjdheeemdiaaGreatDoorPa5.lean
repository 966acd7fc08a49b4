/- Why a reading is right: the operations, all of them, continued: slices, fields, indexes, calls. -/
import Derived.Maps.RangeRun
import Derived.OrdersHeld
import Derived.OrdersIn
import Derived.Test.YtpjbjdheeemdiaaGreatDoorPa4
set_option linter.unusedVariables false
set_option linter.unusedSimpArgs false
namespace Go.Fw
open Go
section
variable {c:Cfg} {e:Env} {a:Act} {w:World} {h:Zc} {K:EV->Zc->Prop} {dst:Option Tmp} {type:TypeId} {pos:String} {after:Array Edge} {guard:Option (Nat × Bool)}
theorem ZhB (hag:Agr c.n e a) {d n:Int} {x:Option Operand} (h:ZAD d (x.map e.ev)=some n):(x.map a.eval=none/\n=d)\/∃ k,x.map a.eval=some (.int k n):=by
  rcases ZwV h with ⟨h1,h2⟩ | ⟨k,h1⟩
  ·left
   cases x with
   | none=>exact ⟨rfl,h2⟩
   | some x=>cases h1
  ·right
   cases x with
   | none=>cases h1
   | some x =>
     simp only [Aqx,Awh] at h1
     exact ⟨k,by simp [hag.ev h1,EV.v]⟩
theorem ZkS (hag:Agr c.n e a) {t:TypeId} {x:Operand} {lo hi mx:Option Operand} (hk:opP c (.slice t x lo hi mx) e h K):Zd1 c ⟨dst,.slice t x lo hi mx,type,pos,after,guard⟩ a h K:=by
  simp only [opP] at hk
  split at hk
  ·rename_i s hu hx
   split at hk
   ·rename_i l h hlo hhi
    obtain ⟨h0,h1,h2,hk⟩:=hk
    refine Zd1.of (s:=Instr.sliceAt t (a.eval x) (lo.map a.eval) (hi.map a.eval) (Option.map a.eval none)) rfl (fun w hw=>?_) hk
    rw [hag.ev hx]
    exact Zi5 hu (Znq (m:=(s.size:Int)) (ZhB hag hlo) (ZhB hag hhi) (.inl ⟨rfl,rfl⟩) (fun _=>rfl) h0 h1 h2 (Int.le_refl _))
   ·exact hk.elim
  ·rename_i el p l m hu hx
   split at hk
   ·rename_i lo' up most size bytes hlo hhi hmx hs
    cases hb:hi.isNone&&mx.isSome with
    | true=>rw [hb] at hk;exact hk.elim
    | false =>
      rw [hb] at hk
      obtain ⟨h0,h1,h2,h3,hk⟩:=hk
      obtain ⟨i,hinf,hsz,_⟩:=Ze6 hs
      refine Zd1.of (v:= .val (.slice _ _ _)) (s:=Instr.sliceAt t (a.eval x) (lo.map a.eval) (hi.map a.eval) (mx.map a.eval)) rfl (fun w hw=>?_) hk
      rw [hag.ev hx]
      refine ZjJ hu hinf hsz (Znq (ZhB hag hlo) (ZhB hag hhi) (ZhB hag hmx) ?_ h0 h1 h2 h3)
      intro hn
      cases hi with
      | some _=>cases hn
      | none =>
        cases mx with
        | none=>rfl
        | some _=>cases hb
   ·exact hk.elim
  ·exact hk.elim
theorem ZgB (hag:Agr c.n e a) {s:TypeId} {x:Operand} {f:Nat} (hk:opP c (.fieldAddr s x f) e h K):Zd1 c ⟨dst,.fieldAddr s x f,type,pos,after,guard⟩ a h K:=by
  simp only [opP] at hk
  split at hk
  ·rename_i fs v hu hx
   split at hk
   ·rename_i fd hf
    cases hb:Nat.beq (c.P.cellsOf fd.type) 0 with
    | true=>rw [hb] at hk;exact hk.elim
    | false =>
      rw [hb] at hk
      obtain ⟨b,o,hp,hk⟩:=Zh8 hk
      rw [ZrL] at hk
      refine Zd1.of (s:=Instr.fieldAt s (a.eval x) f) rfl (fun w hw=>?_) hk
      rw [hag.ev hx,hp]
      exact ZqZ hu hf (Awi hb)
   ·exact hk.elim
  ·exact hk.elim
theorem ZkU (hag:Agr c.n e a) {s:TypeId} {x:Operand} {f:Nat} (hk:opP c (.field s x f) e h K):Zd1 c ⟨dst,.field s x f,type,pos,after,guard⟩ a h K:=by
  simp only [opP] at hk
  split at hk
  ·rename_i fs cs hu hx
   split at hk
   ·rename_i fd hf
    cases hd:c.P.underlying fd.type with
    | none=>rw [hd] at hk;exact hk.elim
    | some d =>
      obtain ⟨i,hi⟩:=ZaZ c.P hd
      rw [hd] at hk
      cases ha:ZbV (some d) with
      | true =>
        rw [ha,ZbW c.P hi] at hk
        refine Zd1.of (v:= .val (.agg _)) (s:=Instr.field s (a.eval x) f) rfl (fun w hw=>?_) hk
        rw [hag.ev hx]
        exact Zn7 hu hf hd ha hi
      | false =>
        rw [ha] at hk
        simp only [cond_false] at hk
        split at hk
        ·rename_i v hv
         refine Zd1.of (v:= .val v) (s:=Instr.field s (a.eval x) f) rfl (fun w hw=>?_) hk
         rw [hag.ev hx]
         exact Zn6 hu hf hd ha hv
        ·exact hk.elim
   ·exact hk.elim
  ·exact hk.elim
theorem ZgA (hag:Agr c.n e a) {t:TypeId} {x i:Operand} (hk:opP c (.indexAddr t x i) e h K):Zd1 c ⟨dst,.indexAddr t x i,type,pos,after,guard⟩ a h K:=by
  simp only [opP] at hk
  split at hk
  ·rename_i el p l m k n hu hx hi
   split at hk
   ·rename_i size bytes hs
    obtain ⟨b,o,rfl,h0,h1,hk⟩:=hk
    obtain ⟨inf,hinf,hsz,_⟩:=Ze6 hs
    refine Zd1.of (s:=Instr.indexAt t (a.eval x) (a.eval i)) rfl (fun w hw=>?_) hk
    rw [hag.ev hx,hag.ev hi]
    exact ZjL hu hinf hsz h0 h1
   ·exact hk.elim
  ·rename_i n el v k j hu hx hi
   split at hk
   ·rename_i size bytes hs
    obtain ⟨b,o,hp,hk⟩:=Zh8 hk
    obtain ⟨h0,h1,hk⟩:=hk
    obtain ⟨inf,hinf,hsz,_⟩:=Ze6 hs
    refine Zd1.of (s:=Instr.indexAt t (a.eval x) (a.eval i)) rfl (fun w hw=>?_) hk
    rw [hag.ev hx,hag.ev hi,hp]
    exact ZjM hu hinf hsz h0 h1
   ·exact hk.elim
  ·exact hk.elim
theorem Zl2 {d:Option TypeDesc} {v:Value} {K:EV->Prop} (hk:Zs9 d v K):∃ u:EV,u.v=v/\K u:=by
  unfold Zs9 at hk
  split at hk<;>first
    | exact hk.elim
    | (obtain ⟨x,hx,hK⟩:=hk;refine ⟨_,?_,hK⟩;exact hx.symm)
    | exact ⟨.val v,rfl,hk⟩
theorem Zjr {P:Program} {t:TypeId} {v:Value} {K:EV->Prop} (hk:ZDU P t v K):∃ u:EV,u.v=v/\K u:=by
  unfold ZDU at hk
  cases hb:ZbV (P.underlying t) with
  | true =>
    rw [hb] at hk
    obtain ⟨r,hr,hK⟩:=hk
    exact ⟨.val (.agg (Tup.vals _ r).toArray),hr.symm,hK⟩
  | false =>
    rw [hb] at hk
    exact Zl2 hk
theorem ZkT (hag:Agr c.n e a) {t:TypeId} {x i:Operand} (hk:opP c (.index t x i) e h K):Zd1 c ⟨dst,.index t x i,type,pos,after,guard⟩ a h K:=by
  simp only [opP] at hk
  split at hk
  ·rename_i s k n hu hx hi
   obtain ⟨y,h0,hy,hk⟩:=hk
   refine Zd1.of (v:= .val (.int .u8 y.toNat)) (s:=Instr.index t (a.eval x) (a.eval i)) rfl (fun w hw=>?_) hk
   rw [hag.ev hx,hag.ev hi]
   exact Zkp hu h0 hy
  ·rename_i n el cs k j hu hx hi
   split at hk
   ·rename_i gs he
    obtain ⟨hl,hk⟩:=ZeB hk
    obtain ⟨h0,h1,hk⟩:=hk
    obtain ⟨u,hu',hk⟩:=Zjr hk
    refine Zd1.of (v:=u) (s:=Instr.index t (a.eval x) (a.eval i)) rfl (fun w hw=>?_) hk
    rw [hag.ev hx,hag.ev hi,hu']
    exact Zla hu he h0 h1 (Awg hl)
   ·exact hk.elim
  ·exact hk.elim
theorem Zis (hag:Agr c.n e a) {x:Operand} {i:Nat} (hk:opP c (.extract x i) e h K):Zd1 c ⟨dst,.extract x i,type,pos,after,guard⟩ a h K:=by
  simp only [opP] at hk
  split at hk
  ·rename_i k' v' hx
   cases hb:Nat.beq i 0 with
   | false=>rw [hb] at hk;exact hk.elim
   | true =>
     rw [hb] at hk
     have hi:=Awg hb
     subst hi
     refine Zd1.of (v:= .lit true) (s:=Instr.extract (a.eval x) 0) rfl (fun w hw=>?_) hk
     rw [hag.ev hx]
     rfl
  ·rename_i hx
   cases hb:Nat.beq i 0 with
   | false=>rw [hb] at hk;exact hk.elim
   | true =>
     rw [hb] at hk
     have hi:=Awg hb
     subst hi
     refine Zd1.of (v:= .lit false) (s:=Instr.extract (a.eval x) 0) rfl (fun w hw=>?_) hk
     rw [hag.ev hx]
     rfl
  ·rename_i vs hx
   split at hk
   ·rename_i v hv
    refine Zd1.of (v:= .val v) (s:=Instr.extract (a.eval x) i) rfl (fun w hw=>?_) hk
    rw [hag.ev hx]
    have hv':vs[i]?=some v:=by simpa using hv
    simp only [EV.v,Instr.extract,hv']
    rfl
   ·exact hk.elim
  ·exact hk.elim
theorem Xj {P:Program} {w w':World} {ρ:Operand->Value} {b:Builtin} {args:Array Operand} {ts:Array TypeId} {v:Value} {s:Sem Value}
    (hb:∀ type consts,builtin b ts type consts (args.map ρ)=(do pure (.value (<- s)))) (hr:s.run P w = .ok v w') :
    (execOp ρ ⟨dst,.call ⟨.builtin b,args,ts⟩,type,pos,after,guard⟩).run P w = .ok (.value v) w':=by
  simp only [execOp,resolve,Awk,Awp,Awl,invoke,hb,hr]
theorem ZcU (hag:Agr c.n e a) {args:Array Operand} {es:List EV} (h:evs e args.toList=some es):args.map a.eval=(es.map EV.v).toArray:=by
  apply Axe
  simp [hag.evs h]
theorem YR (hag:Agr c.n e a) {b:Builtin} {args:Array Operand} {ts:Array TypeId} (hb:(b = .len/\Zil c.P ts=false)\/b = .cap\/b = .min\/b = .max) (hk:Zmt c (.call ⟨.builtin b,args,ts⟩) e h K) :
    Zd1 c ⟨dst,.call ⟨.builtin b,args,ts⟩,type,pos,after,guard⟩ a h K:=by
  rcases hb with ⟨rfl,hmt⟩ | rfl | rfl | rfl
  ·simp only [Zmt] at hk
   split at hk
   ·rename_i t v ht hv
    have hargs:=ZcU hag hv
    have key:∀ n:Int,(∀ w,(Builtin.len_ ts type #[v.v]).run c.P w = .ok (.int .i64 n) w)->K (.val (.int .i64 n)) h->Zd1 c ⟨dst,.call ⟨.builtin .len,args,ts⟩,type,pos,after,guard⟩ a h K:=by
      intro n hr hk
      refine ⟨.val (.int .i64 n),fun w _=>?_,hk⟩
      refine Xj (s:=Builtin.len_ ts type #[v.v]) (fun ty cs=>?_) (hr w)
      rw [hargs];rfl
    split at hk
    ·rename_i s hu
     refine key _ (fun w=>?_) hk
     unfold Builtin.len_
     simp only [ht,EV.v,Axh,Axi,Awk,Zg c.P w t hu,Awl]
     rfl
    ·rename_i el p n m hu
     refine key _ (fun w=>?_) hk
     unfold Builtin.len_
     simp only [ht,EV.v,Axh,Axi,Awk,Zg c.P w t hu,Awl]
     rfl
    ·rename_i n el hu
     refine key _ (fun w=>?_) hk
     unfold Builtin.len_
     simp only [ht,Axh,Axi,Awk,Zg c.P w t hu,Awl]
     rfl
    ·rename_i hu
     simp [Zil,ht,hu] at hmt
    ·exact hk.elim
   ·exact hk.elim
  ·simp only [Zmt] at hk
   split at hk
   ·rename_i t v ht hv
    have hargs:=ZcU hag hv
    split at hk
    ·rename_i el p n m hu
     refine ⟨.val (.int .i64 m),fun w _=>?_,hk⟩
     refine Xj (s:=Builtin.cap_ ts type #[.slice p n m]) (fun ty cs=>?_) ?_
     ·rw [hargs];rfl
     ·unfold Builtin.cap_
      simp only [ht,Axh,Axi,Awk,Zg c.P w t hu,Awl]
      rfl
    ·exact hk.elim
   ·exact hk.elim
  ·simp only [Zmt] at hk
   split at hk
   ·rename_i k x k' y hv
    have hargs:=ZcU hag hv
    refine ⟨.val (.int k (ZLT x y)),fun w _=>?_,hk⟩
    refine Xj (s:=Builtin.min_ ts type #[.int k x,.int k' y]) (fun ty cs=>?_) ?_
    ·rw [hargs];rfl
    ·unfold Builtin.min_
     simp [Builtin.min2,ZLT,EV.v]
   ·exact hk.elim
  ·simp only [Zmt] at hk
   split at hk
   ·rename_i k x k' y hv
    have hargs:=ZcU hag hv
    refine ⟨.val (.int k (ZAI x y)),fun w _=>?_,hk⟩
    refine Xj (s:=Builtin.max_ ts type #[.int k x,.int k' y]) (fun ty cs=>?_) ?_
    ·rw [hargs];rfl
    ·unfold Builtin.max_
     simp [Builtin.max2,ZAI,EV.v]
   ·exact hk.elim
theorem Zwd (hag:Agr c.n e a) {args:Array Operand} {ts:Array TypeId} (hk:Zmt c (.call ⟨.builtin .len,args,ts⟩) e h K) :
    ZrP c ⟨dst,.call ⟨.builtin .len,args,ts⟩,type,pos,after,guard⟩ a h K:=by
  cases hm:Zil c.P ts with
  | false=>exact (YR hag (.inl ⟨rfl,hm⟩) hk).q
  | true =>
    simp only [Zmt] at hk
    split at hk
    ·rename_i t v ht hv
     have hargs:=ZcU hag hv
     split at hk
     ·rename_i s hu
      simp [Zil,ht,hu] at hm
     ·rename_i el p n m hu
      simp [Zil,ht,hu] at hm
     ·rename_i n el hu
      simp [Zil,ht,hu] at hm
     ·rename_i kt et m hu
      have key:∀ n:Int,(∀ w:World,w.heap=h->(Builtin.len_ ts type #[.map m]).run c.P w = .ok (.int .i64 n) w)->K (.val (.int .i64 n)) h->ZrP c ⟨dst,.call ⟨.builtin .len,args,ts⟩,type,pos,after,guard⟩ a h K:=by
        intro n hr hk
        refine ⟨.val (.int .i64 n),fun w hw=>?_,hk⟩
        refine Xj (s:=Builtin.len_ ts type #[.map m]) (fun ty cs=>?_) (hr w hw)
        rw [hargs];rfl
      cases m with
      | none =>
        refine key 0 (fun w _=>?_) (hk.1 rfl)
        unfold Builtin.len_
        simp only [ht,Axh,Axi,Awk,Zg c.P w t hu,Awl]
        rfl
      | some b =>
        obtain ⟨es,cl,hb,hk⟩:=hk.2 b rfl
        refine key _ (fun w hw=>?_) hk
        subst hw
        unfold Builtin.len_
        simp only [ht,Axh,Axi,Awk,Zg c.P w t hu,Awl,MapKept.run_getObj_map hb]
        rfl
     ·exact hk.elim
    ·exact hk.elim
theorem ZiH {d:TypeDesc} {k:Value} (h:Zxt d k=true):MapKept.IsKey d k:=by
  unfold Zxt at h
  split at h
  ·split at h
   ·rename_i hk;subst hk;rfl
   ·cases h
  ·trivial
  ·trivial
  ·cases h
theorem Ztz {P:Program} {t kt et:TypeId} {d:TypeDesc} {m:Option Nat} {k z:Value} {inf:TypeInfo} {h:Zc} {K:Option Value->Prop} (hu:P.underlying t=some (.map kt et)) (hd:P.underlying kt=some d) (hkey:Zxt d k=true)
    (hinf:P.info? et=some inf) (hiz:inf.zero=some z) (hk:ZsB d h m k K) :
    ∃ r:Option Value,(∀ (ok:Bool) (w:World),w.heap=h->(Instr.lookup t (.map m) k ok).run P w = .ok (if ok then .tuple #[r.getD z,.bool r.isSome] else r.getD z) w)/\K r:=by
  have hz:∀ w:World,(zeroValue et).run P w = .ok z w:=fun w=>Zau P w et hinf hiz
  cases m with
  | none =>
    refine ⟨none,fun ok w hw=>?_,hk.1 rfl⟩
    unfold Instr.lookup
    have hf:(Instr.findKey kt k []).run P w = .ok none w:=MapKept.run_findKey hd rfl
    simp only [Awk,Zg P w t hu,Awl,Awp,MapKept.run_checkKey hd (ZiH hkey),hf,hz]
    rfl
  | some b =>
    obtain ⟨es,cl,r,hb,hfn,hk⟩:=hk.2 b rfl
    refine ⟨r.map (·.2),fun ok w hw=>?_,hk⟩
    subst hw
    unfold Instr.lookup
    have hf:(Instr.findKey kt k es.toList).run P w = .ok r w:=MapKept.run_findKey hd hfn
    simp only [Awk,Zg P w t hu,Awl,MapKept.run_getObj_map hb,Awp,MapKept.run_checkKey hd (ZiH hkey),hf]
    cases r with
    | none=>simp only [Awk,hz,Awl];rfl
    | some x=>rfl
theorem Zty {P:Program} {t kt et:TypeId} {d:TypeDesc} {m:Option Nat} {k v:Value} {w:World} {K:Zc->Prop} (hu:P.underlying t=some (.map kt et)) (hd:P.underlying kt=some d) (hkey:Zxt d k=true)
    (hk:Xr d w.heap m k v K):∃ w',(Instr.mapUpdate t (.map m) k v).run P w = .ok () w'/\Same w w'/\K w'.heap:=by
  obtain ⟨b,es,cl,r,rfl,hb,hks,hfn,hk⟩:=hk
  refine ⟨{ w with heap:=w.heap.setIfInBounds b (ZFP es cl k v r)},?_,⟨rfl,rfl,rfl⟩,hk⟩
  unfold Instr.mapUpdate
  have hf:(Instr.findKey kt k es.toList).run P w = .ok r w:=MapKept.run_findKey hd hfn
  simp only [Awk,Zg P w t hu,Awl,MapKept.run_getObj_map hb,MapKept.run_checkKey hd (ZiH hkey),hf]
  rcases MapKept.findNow_spec (ZiH hkey) es.toList 0 hks with ⟨h1,_⟩ | ⟨j,e0,h1,h2,h3⟩
  ·rw [hfn] at h1
   cases h1
   exact MapKept.run_setObj_map _ hb
  ·rw [hfn] at h1
   cases h1
   have hkk:(Instr.keyThatStays (((es[0+j]?).map (·.key)).getD k) k).run P w = .ok k w:=by
     have h2':es[0+j]?=some e0:=by rw [Awb];simpa using h2
     rw [h2']
     simp only [Aqx,Axo,h3]
     unfold Instr.keyThatStays
     have hs:Instr.sameBits 10000 k k=true:=by
       unfold Zxt at hkey
       split at hkey<;>first
         | (simp [Instr.sameBits];done)
         | (exact (MapKept.bytes_beq _ _).2 rfl)
         | cases hkey
     rw [if_pos hs]
     rfl
   simp only [Awk,hkk,Awl]
   exact MapKept.run_setObj_map _ hb
theorem Zlw {d:TypeDesc} {v w:Value} (hv:MapKept.IsKey d v) (hw:MapKept.IsKey d w):ZgZ (some d) v w=some (Zik v w):=by
  cases d<;>cases v<;>cases w<;>first
    | exact hv.elim
    | exact hw.elim
    | rfl
    | skip
  rename_i k k1 n1 k2 n2
  have h1:k1=k:=hv
  have h2:k2=k:=hw
  subst h1
  subst h2
  simp [ZgZ,Zik]
theorem Zoz {P:Program} {t:TypeId} (h:Zmo (P.underlying t)=true):P.underlying t=some ((P.underlying t).getD .bool):=by
  cases hu:P.underlying t with
  | none=>rw [hu] at h;cases h
  | some d=>rfl
theorem Zjn {P:Program}:∀ {fs:List Field} {i:Nat} {xs ys:List Value},ZhO P fs i=true->ZaE (ZhP P fs) (xs.drop i)->ZaE (ZhP P fs) (ys.drop i) ->
    ZfA P fs xs ys=some (Zfo (xs.drop i) (ys.drop i))
  | [],i,xs,ys,_,hx,hy=>by
    cases hxs:xs.drop i with
    | cons a l=>rw [hxs] at hx;exact hx.elim
    | nil=>cases hys:ys.drop i with
      | cons a l=>rw [hys] at hy;exact hy.elim
      | nil=>rfl
  | f::fs,i,xs,ys,hf,hx,hy=>by
    simp only [ZhO] at hf
    cases hn:(f.name == "_") with
    | true=>rw [hn] at hf;cases hf
    | false =>
      rw [hn] at hf
      simp only [cond_false] at hf
      cases hb:(Nat.beq f.offset i&&Zmo (P.underlying f.type)) with
      | false=>rw [hb] at hf;cases hf
      | true =>
        rw [hb] at hf
        simp only [cond_true] at hf
        simp only [Awn] at hb
        have ho:=Awg hb.1
        cases hxs:xs.drop i with
        | nil=>rw [hxs] at hx;exact hx.elim
        | cons a l =>
          cases hys:ys.drop i with
          | nil=>rw [hys] at hy;exact hy.elim
          | cons b m =>
            rw [hxs] at hx
            rw [hys] at hy
            have hx0:xs[f.offset]?=some a:=by rw [ho];have:=congrArg (fun l=>l[0]?) hxs;simpa using this
            have hy0:ys[f.offset]?=some b:=by rw [ho];have:=congrArg (fun l=>l[0]?) hys;simpa using this
            have hxd:xs.drop (i+1)=l:=by rw [<- Axp,hxs];rfl
            have hyd:ys.drop (i+1)=m:=by rw [<- Axp,hys];rfl
            have ih:=Zjn (P:=P) (fs:=fs) (i:=i+1) (xs:=xs) (ys:=ys) hf (by rw [hxd];exact hx.2) (by rw [hyd];exact hy.2)
            have hl:ZgZ (P.underlying f.type) a b=some (Zik a b):=by
              rw [Zoz hb.2]
              exact Zlw hx.1 hy.1
            simp only [ZfA,hn,cond_false,hx0,hy0,hl,ih,hxd,hyd,Zfo]
theorem Zot:∀ {ds:List TypeDesc} {vs:List Value},Zxs ds vs=true->ZaE ds vs
  | [],[],_=>trivial
  | d::ds,v::vs,h=>by
    simp only [Zxs] at h
    cases hb:Zxt d v with
    | false=>rw [hb] at h;cases h
    | true=>rw [hb] at h;exact ⟨ZiH hb,Zot h⟩
  | [],_::_,h=>by cases h
  | _::_,[],h=>by cases h
theorem Zng {P:Program} {kt:TypeId} {fs:Array Field} {cs:List Value} (h:ZzU P kt fs cs=true):P.stoodInHeld kt=false/\ZhO P fs.toList 0=true/\ZaE (ZhP P fs.toList) cs:=by
  unfold ZzU at h
  cases h1:P.stoodInHeld kt with
  | true=>rw [h1] at h;cases h
  | false =>
    rw [h1] at h
    cases h2:ZhO P fs.toList 0 with
    | false=>rw [h2] at h;cases h
    | true=>rw [h2] at h;exact ⟨rfl,rfl,Zot h⟩
theorem Zn8 {P:Program} {w:World} {kt:TypeId} {fs:Array Field} {cs:List Value} (hd:P.underlying kt=some (.struct fs)) (hf:ZhO P fs.toList 0=true) (hk:ZaE (ZhP P fs.toList) cs) (e:Bool) (n:Nat) :
    (Instr.checkKey e (n+1+1) kt (.agg cs.toArray)).run P w = .ok () w:=by
  unfold Instr.checkKey
  simp only [Awk,Zg P w kt hd,Awl]
  rw [<- Array.forIn_toList]
  have key:∀ (fs:List Field) (i:Nat),ZhO P fs i=true->ZaE (ZhP P fs) (cs.drop i) ->
      (forIn fs PUnit.unit fun f _=>(do
        if f.name≠ "_" then Instr.checkKey e (n+1) f.type (<- part f.type cs.toArray f.offset)
        pure (ForInStep.yield PUnit.unit):Sem (ForInStep PUnit))).run P w = .ok PUnit.unit w:=by
    intro fs
    induction fs with
    | nil=>intro i _ _;simp
    | cons f fs ih =>
      intro i hf hk
      simp only [ZhO] at hf
      cases hn:(f.name == "_") with
      | true=>rw [hn] at hf;cases hf
      | false =>
        rw [hn] at hf
        simp only [cond_false] at hf
        have hne:f.name≠ "_" :=by
          intro he
          rw [he] at hn
          simp at hn
        cases hb:(Nat.beq f.offset i&&Zmo (P.underlying f.type)) with
        | false=>rw [hb] at hf;cases hf
        | true =>
          rw [hb] at hf
          simp only [cond_true] at hf
          simp only [Awn] at hb
          have ho:=Awg hb.1
          cases hxs:cs.drop i with
          | nil=>rw [hxs] at hk;exact hk.elim
          | cons a l =>
            rw [hxs] at hk
            have hx0:cs.toArray[f.offset]?=some a:=by rw [ho];have:=congrArg (fun l=>l[0]?) hxs;simpa using this
            have hxd:cs.drop (i+1)=l:=by rw [<- Axp,hxs];rfl
            have hu:=Zoz hb.2
            have h1:ZbV (P.underlying f.type)=false:=by
              have:=hb.2
              unfold Zmo at this
              split at this<;>first
                | (rename_i h;rw [h];rfl)
                | cases this
            have hp:=ZcE (P:=P) (w:=w) (t:=f.type) (xs:=cs.toArray) (off:=f.offset) h1 (by rw [hu];rfl) hx0
            have hc:=MapKept.run_checkKey (P:=P) (w:=w) hu hk.1 e n
            have:=ih (i+1) hf (by rw [hxd];exact hk.2)
            simp only [ne_eq] at this
            simp only [Axm,ne_eq,hne,not_false_eq_true,if_true,Awk,hp,Awl,hc,Awp]
            exact this
  have:=key fs.toList 0 hf (by simpa using hk)
  simp only [this,Awl,Awp]
theorem Zpy {P:Program} {w:World} {kt:TypeId} {fs:Array Field} {xs ys:List Value} (hd:P.underlying kt=some (.struct fs)) (hs:P.stoodInHeld kt=false) (hf:ZhO P fs.toList 0=true)
    (hx:ZaE (ZhP P fs.toList) xs) (hy:ZaE (ZhP P fs.toList) ys):(Op.equal kt (.agg xs.toArray) (.agg ys.toArray)).run P w = .ok (Zfo xs ys) w:=by
  have hfo:P.fieldsOf kt=fs:=by unfold Program.fieldsOf;rw [hd]
  unfold Op.equal Op.maxDepth
  rw [show (10000:Nat)=9998+1+1 from rfl,run_equalIn_agg w _ kt _ _ (by rw [hfo];exact hd) hs,hfo]
  have:=Zjn (P:=P) (fs:=fs.toList) (i:=0) (xs:=xs) (ys:=ys) hf (by simpa using hx) (by simpa using hy)
  exact Zg1 (xs:=xs.toArray) (ys:=ys.toArray) this
structure Znv (P:Program) (kt:TypeId) (d:TypeDesc) (ds:List TypeDesc):Prop where
  und:P.underlying kt=some d
  chk:∀ {cs:List Value},ZaE ds cs->∀ (e:Bool) (n:Nat) (w:World),(Instr.checkKey e (n+1+1) kt (.agg cs.toArray)).run P w = .ok () w
  eq:∀ {xs ys:List Value},ZaE ds xs->ZaE ds ys->∀ w:World,(Op.equal kt (.agg xs.toArray) (.agg ys.toArray)).run P w = .ok (Zfo xs ys) w
  now:∀ (x:Array Value) (y:Value),Instr.sameNow d (.agg x) y=none
theorem Zym {P:Program} {kt:TypeId} {fs:Array Field} (hd:P.underlying kt=some (.struct fs)) (hs:P.stoodInHeld kt=false) (hf:ZhO P fs.toList 0=true):Znv P kt (.struct fs) (ZhP P fs.toList) :=
  ⟨hd,fun hl e n w=>Zn8 hd hf hl e n,fun hx hy w=>Zpy hd hs hf hx hy,fun x y=>by unfold Instr.sameNow;rfl⟩
theorem Zyf {b A:Bool} (h:(bif b then A else false)=true):b=true/\A=true:=by
  cases b with
  | true=>exact ⟨rfl,h⟩
  | false=>cases h
theorem Znh {P:Program} {n:Nat} {e:TypeId} {cs:List Value} (h:ZzV P n e cs=true):n=2/\Zmo (P.underlying e)=true/\(∃ i,P.info? e=some i/\i.size=1)/\ZaE [(P.underlying e).getD .bool,(P.underlying e).getD .bool] cs:=by
  unfold ZzV at h
  obtain ⟨h1,h⟩:=Zyf h
  obtain ⟨h2,h⟩:=Zyf h
  cases hi:P.info? e with
  | none=>rw [hi] at h;cases h
  | some i =>
    rw [hi] at h
    obtain ⟨h3,h⟩:=Zyf h
    exact ⟨Awg h1,h2,⟨i,rfl,Awg h3⟩,Zot h⟩
theorem Zt9 {d:Option TypeDesc} (h:Zmo d=true):ZbV d=false:=by
  unfold Zmo at h
  split at h<;>first
    | rfl
    | cases h
theorem Zwn {ds:TypeDesc} {cs:List Value} (h:ZaE [ds,ds] cs):∃ a b,cs=[a,b]/\MapKept.IsKey ds a/\MapKept.IsKey ds b:=by
  match cs,h with
  | [a,b],⟨h1,h2,_⟩=>exact ⟨a,b,rfl,h1,h2⟩
  | [],h=>exact h.elim
  | [_],⟨_,h⟩=>exact h.elim
  | _::_::_::_,⟨_,_,h⟩=>exact h.elim
theorem Zyn {P:Program} {kt el:TypeId} (hd:P.underlying kt=some (.array 2 el)) (hf:Zmo (P.underlying el)=true) (hi:∃ i,P.info? el=some i/\i.size=1) :
    Znv P kt (.array 2 el) [(P.underlying el).getD .bool,(P.underlying el).getD .bool]:=by
  obtain ⟨i,hi,h1⟩:=hi
  have hu:=Zoz hf
  have hs:∀ w:World,(sizeOf el).run P w = .ok 1 w:=fun w=>by rw [XM P w el hi,h1]
  have pt:∀ (xs:Array Value) (off:Nat) (x:Value) (w:World),xs[off]?=some x->(part el xs off).run P w = .ok x w:=fun xs off x w hx=>ZcE (Zt9 hf) (by rw [hu];rfl) hx
  refine ⟨hd,fun {cs} hl e n w=>?_,fun {xs ys} hx hy w=>?_,fun x y=>by unfold Instr.sameNow;rfl⟩
  ·obtain ⟨a,b,rfl,ha,hb⟩:=Zwn hl
   have ca:=MapKept.run_checkKey (P:=P) (w:=w) hu ha e n
   have cb:=MapKept.run_checkKey (P:=P) (w:=w) hu hb e n
   have pa:=pt #[a,b] 0 a w rfl
   have pb:=pt #[a,b] 1 b w rfl
   unfold Instr.checkKey
   simp only [Awk,Zg P w kt hd,Awl,Std.Legacy.Range.forIn_eq_forIn_range',Std.Legacy.Range.size,Nat.sub_zero,Nat.add_sub_cancel,Nat.div_one,List.range',Axm,List.forIn_nil,hs,Aqs,Nat.one_mul,Aqv,Awb,pa,pb,ca,cb,Awp]
  ·obtain ⟨a,b,rfl,ha,hb⟩:=Zwn hx
   obtain ⟨c,d,rfl,hc,hd'⟩:=Zwn hy
   have e1:ZgZ (P.underlying el) a c=some (Zik a c):=by rw [hu];exact Zlw ha hc
   have e2:ZgZ (P.underlying el) b d=some (Zik b d):=by rw [hu];exact Zlw hb hd'
   have q1:=(ZgY (d:=9998) (w:=w) e1).2.2
   have q2:=(ZgY (d:=9998) (w:=w) e2).2.2
   have pa:=pt #[a,b] 0 a w rfl
   have pb:=pt #[a,b] 1 b w rfl
   have pc:=pt #[c,d] 0 c w rfl
   have pd:=pt #[c,d] 1 d w rfl
   unfold Op.equal Op.maxDepth
   rw [show (10000:Nat)=9998+1+1 from rfl]
   unfold Op.equalIn
   simp only [Awk,Zg P w kt hd,Awl,Std.Legacy.Range.forIn_eq_forIn_range',Std.Legacy.Range.size,Nat.sub_zero,Nat.add_sub_cancel,Nat.div_one,List.range',Axm,List.forIn_nil,hs,Aqs,Nat.one_mul,Aqv,Awb,pa,pb,pc,pd,q1,Awp,Zfo]
   cases Zik a c<;>simp only [Bool.not_true,Axl,Aqc,if_true,if_false,Awk,Awp,Awl,cond_true,cond_false,pb,pd,q2]
   cases Zik b d<;>simp [Awp]
theorem Zii {P:Program} {w:World} {kt:TypeId} {d:TypeDesc} {ds:List TypeDesc} {k:List Value} (hA:Znv P kt d ds)
    (hk:ZaE ds k):∀ (l:List MapEntry) (i:Nat),(∀ x,x∈l->ZkK ds x.key)->(Instr.findAsking kt (.agg k.toArray) l i).run P w = .ok (ZlM k l i) w
  | [],i,_=>rfl
  | e::l,i,h=>by
    obtain ⟨cs,hcs,hl⟩:=h e (.head _)
    have he:=hA.eq hk hl w
    have ih:=Zii (w:=w) hA hk l (i+1) (fun x hx=>h x (.tail _ hx))
    unfold Instr.findAsking
    have ha:Zum k e.key=Zfo k cs:=by rw [hcs];simp [Zum]
    rw [hcs]
    simp only [Awk,he,Awl,ZlM,ha]
    cases Zfo k cs with
    | true=>simp
    | false=>simpa using ih
theorem Zhw {P:Program} {w:World} {kt:TypeId} {d:TypeDesc} {ds:List TypeDesc} {k:List Value} (hA:Znv P kt d ds)
    (hk:ZaE ds k) (l:List MapEntry) (h:∀ x,x∈l->ZkK ds x.key):(Instr.findKey kt (.agg k.toArray) l).run P w = .ok (ZlM k l 0) w:=by
  unfold Instr.findKey
  simp only [Awk,Zg P w kt hA.und,Awl]
  cases l with
  | nil=>rfl
  | cons e l =>
    have:Instr.findNow d (.agg k.toArray) (e::l) 0=none:=by
      unfold Instr.findNow
      rw [hA.now]
    rw [this]
    exact Zii hA hk (e::l) 0 h
theorem Zih:∀ {ds:List TypeDesc} {xs ys:List Value} (n:Nat),ZaE ds xs->ZaE ds ys->Zfo xs ys=true->xs=ys
  | [],[],[],_,_,_,_=>rfl
  | d::ds,x::xs,y::ys,n,hx,hy,h=>by
    simp only [Zfo] at h
    cases hb:Zik x y with
    | false=>rw [hb] at h;cases h
    | true =>
      rw [hb] at h
      have:x=y:=by
        have h1:=hx.1
        have h2:=hy.1
        cases d<;>cases x<;>cases y<;>first
          | exact h1.elim
          | exact h2.elim
          | skip
        all_goals simp only [Zik,Zch,MapKept.IsKey,beq_iff_eq] at hb h1 h2
        all_goals first
          | (subst hb;rfl)
          | (subst h1;subst h2;subst hb;rfl)
          | (congr 1;exact (MapKept.bytes_beq _ _).1 ((beq_toListBytes _ _).trans (by simpa using hb)))
      rw [this,Zih n hx.2 hy.2 h]
  | [],[],_::_,_,_,hy,_=>hy.elim
  | [],_::_,_,_,hx,_,_=>hx.elim
  | _::_,[],_,_,hx,_,_=>hx.elim
  | _::_,_::_,[],_,_,hy,_=>hy.elim
theorem Znk {k:List Value}:∀ {l:List MapEntry} {i j:Nat} {v:Value},ZlM k l i=some (j,v)->∃ m e,j=i+m/\l[m]?=some e/\e.val=v/\Zum k e.key=true
  | e::l,i,j,v,h=>by
    simp only [ZlM] at h
    cases hb:Zum k e.key with
    | true =>
      rw [hb] at h
      simp only [cond_true,Awh,Prod.mk.injEq] at h
      exact ⟨0,e,h.1.symm,rfl,h.2,hb⟩
    | false =>
      rw [hb] at h
      obtain ⟨m,e',h1,h2,h3,h4⟩:=Znk (l:=l) (i:=i+1) h
      exact ⟨m+1,e',by omega,h2,h3,h4⟩
theorem Zn4:∀ {ds:List TypeDesc} {xs:List Value},ZaE ds xs->Instr.sameBits 10000 (.agg xs.toArray) (.agg xs.toArray)=true:=by
  intro ds xs h
  have key:∀ (ds:List TypeDesc) (xs:List Value),ZaE ds xs->((xs.zip xs).all fun (x,y)=>Instr.sameBits 9999 x y)=true:=by
    intro ds
    induction ds with
    | nil=>intro xs h;cases xs with
      | nil=>rfl
      | cons _ _=>exact h.elim
    | cons d ds ih =>
      intro xs h
      cases xs with
      | nil=>exact h.elim
      | cons x xs =>
        simp only [List.zip_cons_cons,Awm,Awn]
        refine ⟨?_,ih xs h.2⟩
        have h1:=h.1
        cases d<;>cases x<;>first
          | exact h1.elim
          | (simp [Instr.sameBits];done)
          | exact (MapKept.bytes_beq _ _).2 rfl
  show (xs.toArray.size ==xs.toArray.size&&(xs.toArray.toList.zip xs.toArray.toList).all fun (x,y)=>Instr.sameBits 9999 x y)=true
  rw [Awn]
  exact ⟨by simp,key ds xs h⟩
theorem Zk9 {P:Program} {t kt et:TypeId} {d:TypeDesc} {ds:List TypeDesc} {m:Option Nat} {k:List Value} {z:Value} {inf:TypeInfo} {h:Zc} {K:Option Value->Prop} (hu:P.underlying t=some (.map kt et)) (hA:Znv P kt d ds) (hl:ZaE ds k)
    (hinf:P.info? et=some inf) (hiz:inf.zero=some z) (hk:Zrk ds h m k K) :
    ∃ r:Option Value,(∀ (ok:Bool) (w:World),w.heap=h->(Instr.lookup t (.map m) (.agg k.toArray) ok).run P w = .ok (if ok then .tuple #[r.getD z,.bool r.isSome] else r.getD z) w)/\K r:=by
  have hz:∀ w:World,(zeroValue et).run P w = .ok z w:=fun w=>Zau P w et hinf hiz
  have hck:∀ (w:World) (e:Bool),(Instr.checkKey e 10000 kt (.agg k.toArray)).run P w = .ok () w:=fun w e=>hA.chk hl e 9998 w
  cases m with
  | none =>
    refine ⟨none,fun ok w hw=>?_,hk.1 rfl⟩
    unfold Instr.lookup
    have hf0:(Instr.findKey kt (.agg k.toArray) []).run P w = .ok none w:=Zhw hA hl [] (fun x hx=>by cases hx)
    simp only [Awk,Zg P w t hu,Awl,Awp,hck,hf0,hz]
    rfl
  | some b =>
    obtain ⟨es,cl,hb,hks,hk⟩:=hk.2 b rfl
    refine ⟨_,fun ok w hw=>?_,hk⟩
    subst hw
    unfold Instr.lookup
    have hf0:=Zhw (P:=P) (w:=w) hA hl es.toList hks
    simp only [Awk,Zg P w t hu,Awl,MapKept.run_getObj_map hb,Awp,hck,hf0]
    cases ZlM k es.toList 0 with
    | none=>simp only [Awk,hz,Awl];rfl
    | some x=>rfl
theorem Zk8 {P:Program} {t kt et:TypeId} {d:TypeDesc} {ds:List TypeDesc} {m:Option Nat} {k:List Value} {v:Value} {w:World} {K:Zc->Prop} (hu:P.underlying t=some (.map kt et)) (hA:Znv P kt d ds) (hl:ZaE ds k)
    (hk:Zri ds w.heap m k v K):∃ w',(Instr.mapUpdate t (.map m) (.agg k.toArray) v).run P w = .ok () w'/\Same w w'/\K w'.heap:=by
  obtain ⟨b,es,cl,rfl,hb,hks,hk⟩:=hk
  refine ⟨{ w with heap:=w.heap.setIfInBounds b (ZFP es cl (.agg k.toArray) v (ZlM k es.toList 0))},?_,⟨rfl,rfl,rfl⟩,hk⟩
  unfold Instr.mapUpdate
  have hck:(Instr.checkKey false 10000 kt (.agg k.toArray)).run P w = .ok () w:=hA.chk hl false 9998 w
  have hf0:=Zhw (P:=P) (w:=w) hA hl es.toList hks
  simp only [Awk,Zg P w t hu,Awl,MapKept.run_getObj_map hb,hck,hf0]
  cases hfa:ZlM k es.toList 0 with
  | none=>exact MapKept.run_setObj_map _ hb
  | some jv =>
    obtain ⟨j,u⟩:=jv
    obtain ⟨m,e0,h1,h2,h3,h4⟩:=Znk hfa
    rw [Awb] at h1
    subst h1
    have h2':es[j]?=some e0:=by simpa using h2
    obtain ⟨cs,hcs,hlc⟩:=hks e0 (Axq h2)
    have heq:k=cs:=Zih 0 hl hlc (by rw [hcs] at h4;simpa [Zum] using h4)
    have hkk:(Instr.keyThatStays (((es[j]?).map (·.key)).getD (.agg k.toArray)) (.agg k.toArray)).run P w = .ok (.agg k.toArray) w:=by
      rw [h2']
      simp only [Aqx,Axo,hcs,<- heq]
      unfold Instr.keyThatStays
      rw [if_pos (Zn4 hl)]
      rfl
    simp only [Awk,hkk,Awl]
    exact MapKept.run_setObj_map _ hb
theorem ZqY {P:Program} {t kt et:TypeId} {d:TypeDesc} {m:Option Nat} {k z:Value} {inf:TypeInfo} {h:Zc} {K:Option Value->Prop} (hu:P.underlying t=some (.map kt et)) (hd:P.underlying kt=some d)
    (hinf:P.info? et=some inf) (hiz:inf.zero=some z) (hk:Zrj P kt d h m k K) :
    ∃ r:Option Value,(∀ (ok:Bool) (w:World),w.heap=h->(Instr.lookup t (.map m) k ok).run P w = .ok (if ok then .tuple #[r.getD z,.bool r.isSome] else r.getD z) w)/\K r:=by
  unfold Zrj at hk
  split at hk
  ·obtain ⟨hkey,hk⟩:=ZeB hk
   obtain ⟨hs,hf,hl⟩:=Zng hkey
   exact Zk9 (k:=_) hu (Zym hd hs hf) hl hinf hiz hk
  ·obtain ⟨hkey,hk2⟩:=ZeB hk
   obtain ⟨rfl,hf,hi,hl⟩:=Znh hkey
   exact Zk9 (k:=_) hu (Zyn hd hf hi) hl hinf hiz hk2
  ·obtain ⟨hkey,hk⟩:=ZeB hk
   exact Ztz hu hd hkey hinf hiz hk
theorem Zk7 {P:Program} {t kt et:TypeId} {d:TypeDesc} {m:Option Nat} {k v:Value} {w:World} {K:Zc->Prop} (hu:P.underlying t=some (.map kt et)) (hd:P.underlying kt=some d)
    (hk:Zon P kt d w.heap m k v K):∃ w',(Instr.mapUpdate t (.map m) k v).run P w = .ok () w'/\Same w w'/\K w'.heap:=by
  unfold Zon at hk
  split at hk
  ·obtain ⟨hkey,hk⟩:=ZeB hk
   obtain ⟨hs,hf,hl⟩:=Zng hkey
   exact Zk8 (k:=_) hu (Zym hd hs hf) hl hk
  ·obtain ⟨hkey,hk2⟩:=ZeB hk
   obtain ⟨rfl,hf,hi,hl⟩:=Znh hkey
   exact Zk8 (k:=_) hu (Zyn hd hf hi) hl hk2
  ·obtain ⟨hkey,hk⟩:=ZeB hk
   exact Zty hu hd hkey hk
theorem ZtA {P:Program} {t kt et ty:TypeId} {d:TypeDesc} {m:Option Nat} {k:Value} {ts:Array TypeId} {w:World} {K:Zc->Prop} (ht:ts[0]?=some t) (hu:P.underlying t=some (.map kt et)) (hd:P.underlying kt=some d) (hkey:Zxt d k=true)
    (hk:ZAJ d w.heap m k K):∃ w',(Builtin.delete_ ts ty #[.map m,k]).run P w = .ok (.tuple #[]) w'/\Same w w'/\K w'.heap:=by
  cases m with
  | none =>
    refine ⟨w,?_,Same.refl w,hk.1 rfl⟩
    unfold Builtin.delete_
    simp only [ht,Axh,Axi,Axj,Awk,Zg P w t hu,Awl,MapKept.run_checkKey hd (ZiH hkey)]
    rfl
  | some b =>
    obtain ⟨es,cl,r,hb,hfn,hk⟩:=hk.2 b rfl
    refine ⟨{ w with heap:=w.heap.setIfInBounds b (ZMq es cl r)},?_,⟨rfl,rfl,rfl⟩,hk⟩
    unfold Builtin.delete_
    have hf:(Instr.findKey kt k es.toList).run P w = .ok r w:=MapKept.run_findKey hd hfn
    simp only [ht,Axh,Axi,Axj,Awk,Zg P w t hu,Awl,MapKept.run_getObj_map hb,MapKept.run_checkKey hd (ZiH hkey),hf]
    cases r with
    | none=>simp only [Awk,MapKept.run_setObj_map _ hb,Awl];rfl
    | some x=>simp only [Awk,MapKept.run_setObj_map _ hb,Awl];rfl
theorem ZtC {P:Program} {t kt et ty:TypeId} {m:Option Nat} {ts:Array TypeId} {w:World} {K:Zc->Prop} (ht:ts[0]?=some t) (hu:P.underlying t=some (.map kt et))
    (hk:ZMs w.heap m K):∃ w',(Builtin.clear_ ts ty #[.map m]).run P w = .ok (.tuple #[]) w'/\Same w w'/\K w'.heap:=by
  cases m with
  | none =>
    refine ⟨w,?_,Same.refl w,hk.1 rfl⟩
    unfold Builtin.clear_
    simp only [ht,Axh,Axi,Awk,Zg P w t hu,Awl]
    rfl
  | some b =>
    obtain ⟨es,cl,hb,hk⟩:=hk.2 b rfl
    refine ⟨{ w with heap:=w.heap.setIfInBounds b (.map #[] cl)},?_,⟨rfl,rfl,rfl⟩,hk⟩
    unfold Builtin.clear_
    simp only [ht,Axh,Axi,Awk,Zg P w t hu,Awl,MapKept.run_getObj_map hb,MapKept.run_setObj_map _ hb]
    rfl
theorem ZtB {P:Program} {t el ty:TypeId} {q:Option Addr} {l m:Nat} {zs:List Value} {ts:Array TypeId} {w:World} {K:Zc->Prop} (ht:ts[0]?=some t) (hu:P.underlying t=some (.slice el)) (hz:Zkm P el=some zs)
    (hk:ZMr ⟨q,l,m⟩ zs w.heap K):∃ w',(Builtin.clear_ ts ty #[.slice q l m]).run P w = .ok (.tuple #[]) w'/\Same w w'/\K w'.heap:=by
  rcases hk with ⟨h0,hk⟩ | ⟨h0,hk⟩ | ⟨b,o,hp,hf,ha,hk⟩
  ·dsimp only at h0
   subst h0
   refine ⟨w,?_,Same.refl w,hk⟩
   unfold Builtin.clear_
   simp only [ht,Axh,Axi,Awk,Zg P w t hu,Awl]
   rfl
  ·dsimp only at h0
   subst h0
   refine ⟨w,?_,Same.refl w,hk⟩
   unfold Builtin.clear_
   simp only [ht,Axh,Axi,Awk,Zg P w t hu,Awl]
   cases q<;>rfl
  ·dsimp only at hp hf ha hk
   subst hp
   obtain ⟨i,z,hi,hiz,rfl⟩:=Zdo hz
   cases l with
   | zero =>
     refine ⟨w,?_,Same.refl w,?_⟩
     ·unfold Builtin.clear_
      simp only [ht,Axh,Axi,Awk,Zg P w t hu,Awl]
      rfl
     ·have e:Zbt z.cells.toList 0=[]:=rfl
      rw [e] at hk
      exact hk
   | succ l =>
     refine ⟨{ w with heap:=Zc.puts w.heap b o (Zbt z.cells.toList (l+1))},?_,⟨rfl,rfl,rfl⟩,hk⟩
     unfold Builtin.clear_
     have hst:=Zeh P b o (Zbt z.cells.toList (l+1)) 0 w (by simpa using hf) ha
     simp only [ht,Axh,Axi,Awk,Zg P w t hu,Awl,Zau P w el hi hiz,Zj7,hst]
     simp
theorem ZjK {P:Program} {t:TypeId} {v:Value} {w:World} (h:ZgM (P.underlying t)=false):(Instr.makeInterface t v).run P w = .ok (.iface t v) w:=by
  unfold Instr.makeInterface
  cases hu:P.underlying t with
  | none=>rw [hu] at h;cases h
  | some d =>
    rw [hu] at h
    simp only [Awk,Zg P w t hu,Awl]
    cases d<;>first
      | rfl
      | cases h
theorem Zme {P:Program} {t xt:TypeId} {v:Value} {w:World} (h:ZgM (P.underlying t)=false):(Instr.typeAssert (.iface t v) xt t false).run P w = .ok v w:=by
  unfold Instr.typeAssert
  cases hu:P.underlying t with
  | none=>rw [hu] at h;cases h
  | some d =>
    rw [hu] at h
    simp only [Awk,Zg P w t hu,Awl]
    cases d<;>first
      | (simp only [if_true];rfl)
      | cases h
theorem ZDE (hc:c.OK) (hag:Agr c.n e a) {cl:Call} {next:Act->World->Prop} {Q:Exit->Act->World->Prop} (hp9:∀ v w',Same w w'->c.pan v w'.heap->Q (.panic [{ v,recovered:=false }]) a w') (hk:Zmt c (.call cl) e w.heap K)
    (hn:∀ v w',Same w w'->K v w'.heap->next (a.put dst v.v) w'):(⟨dst,.call cl,type,pos,after,guard⟩:Oper).wpIn (fen c.rnd) 0 c.P a w next Q:=by
  have hk0:=hk
  unfold Zmt at hk
  split at hk
  ·rename_i args ts ho
   cases ho
   exact (Zwd hag hk0).val.wp hn
  ·rename_i args ts ho
   cases ho
   exact (YR hag (.inr (.inl rfl)) hk0).val.wp hn
  ·rename_i args ts ho
   cases ho
   exact (YR hag (.inr (.inr (.inl rfl))) hk0).val.wp hn
  ·rename_i args ts ho
   cases ho
   exact (YR hag (.inr (.inr (.inr rfl))) hk0).val.wp hn
  ·
   rename_i args ts ho
   cases ho
   split at hk
   ·rename_i t ht hts
    split at hk
    ·rename_i el hu
     have hts':∀ u,ts[1]?=some u->∃ d,c.P.underlying u=some d/\∀ k,d≠ .int k:=by
       intro u h1
       simp only [h1] at hts
       split at hts
       ·cases hts
       ·rename_i d hne hd
        exact ⟨d,hd,fun k hk=>hne k hk⟩
       ·cases hts
     split at hk
     ·rename_i size bytes zs p n m p' n' m' hs hz hv
      have hargs:=ZcU hag hv
      obtain ⟨i,z,hi,hiz,rfl⟩:=Zdo hz
      obtain ⟨i',hi',rfl,rfl⟩:=Ze6 hs
      rw [hi] at hi'
      cases hi'
      have hnew:∃ new,(∀ w':World,w'.heap=w.heap->(Builtin.firstCells i.size n' (.slice p' n' m')).run c.P w' = .ok new.toArray w')/\app el i.size i.bytes z.cells.toList ⟨p,n,m⟩ n' new w.heap fun s h'=>K (.val (.slice s.ptr s.len s.cap)) h':=by
        rcases hk with ⟨hp,hk⟩ | ⟨b,o,l,hp,hl,hh,hk⟩
        ·refine ⟨[],fun w' _=>?_,hk⟩
         simp only at hp
         rw [hp]
         cases p'<;>simp [Builtin.firstCells,loadCells,loadCellsFrom]
        ·refine ⟨l,fun w' hw=>?_,hk⟩
         simp only at hp hl
         rw [hp]
         simp only [Builtin.firstCells]
         rw [<- hl]
         exact ZdC c.P w' b o l (by rw [hw];exact hh)
      obtain ⟨new,hnew,hk⟩:=hnew
      obtain ⟨s',w',hr,hs',hk⟩:=ZmQ (P:=c.P) (ts:=ts) (rt:=type) (s:=⟨p,n,m⟩) (x:= .slice p' n' m') ht hts' hu hi hiz rfl hnew hk
      refine Val.wp (K:=K) ⟨.val (.slice s'.ptr s'.len s'.cap),w',?_,hs',hk⟩ hn
      refine Xj (s:=Builtin.append_ ts type #[.slice p n m,.slice p' n' m']) (fun ty cs=>?_) hr
      rw [hargs];rfl
     ·rename_i size bytes zs p n m s hs hz hv
      have hargs:=ZcU hag hv
      obtain ⟨i,z,hi,hiz,rfl⟩:=Zdo hz
      obtain ⟨i',hi',rfl,rfl⟩:=Ze6 hs
      rw [hi] at hi'
      cases hi'
      have hnew:∀ w':World,w'.heap=w.heap->(Builtin.firstCells i.size s.size (.string s)).run c.P w' = .ok (Zba s).toArray w':=by
        intro w' _
        simp only [Builtin.firstCells,Awp]
        congr 1
        apply Axe
        simp [Zba]
      obtain ⟨s',w',hr,hs',hk⟩:=ZmQ (P:=c.P) (ts:=ts) (rt:=type) (s:=⟨p,n,m⟩) (x:= .string s) ht hts' hu hi hiz rfl hnew hk
      refine Val.wp (K:=K) ⟨.val (.slice s'.ptr s'.len s'.cap),w',?_,hs',hk⟩ hn
      refine Xj (s:=Builtin.append_ ts type #[.slice p n m,.string s]) (fun ty cs=>?_) hr
      rw [hargs];rfl
     ·exact hk.elim
    ·exact hk.elim
   ·exact hk.elim
  ·
   rename_i x args ts ho
   cases ho
   split at hk
   ·split at hk
    ·rename_i v es hx hv
     obtain ⟨f,cs,s,t,hvv,hp,hk⟩:=ZkI hk
     have hx':a.eval x=Value.func (.func f) #[] ⟨cs⟩:=(hag.ev hx).trans hvv
     have hall:(args.map a.eval)++(⟨cs⟩:Array Value)=((Zz7 es cs).map EV.v).toArray:=by
       rw [ZcU hag hv]
       simp [Zz7,Function.comp_def,EV.v]
     obtain ⟨hmem,ht⟩:=ZhA hp
     dsimp only at hmem ht
     obtain ⟨⟨fn,hf,hname,hbody⟩,hcall⟩:=hc.calls _ hmem
     have henter:(execOp a.eval ⟨dst,.call ⟨.value x,args,ts⟩,type,pos,after,guard⟩).run c.P w = .ok (.enter f ((args.map a.eval)++(⟨cs⟩:Array Value))) w:=by
       simp only [execOp,resolve,hx',Deferred.ofValue,Awk,Awp,Awl,invoke,callFunc,run_program,hf,hname,Aqc,if_false,hbody]
       simp
     refine ZnD henter ?_
     rw [hall,<- ZfR ht]
     refine (hcall t _ _ w hk).mono ?_
     rintro ending w' (⟨r,rfl,hsame,hk⟩ | ⟨v,rfl,hsame,hk⟩)
     ·exact hn _ w' hsame hk
     ·exact hp9 v w' hsame hk
    ·exact hk.elim
   split at hk
   ·rename_i f cs hx
    split at hk
    ·rename_i es hv
     have hx':a.eval x=Value.func (.func f) #[] ⟨cs⟩:=hag.ev hx
     have hall:(args.map a.eval)++(⟨cs⟩:Array Value)=((Zz7 es cs).map EV.v).toArray:=by
       rw [ZcU hag hv]
       simp [Zz7,Function.comp_def,EV.v]
     split at hk
     ·rename_i s t hp
      obtain ⟨hmem,ht⟩:=ZhA hp
      dsimp only at hmem ht
      obtain ⟨⟨fn,hf,hname,hbody⟩,hcall⟩:=hc.calls _ hmem
      have henter:(execOp a.eval ⟨dst,.call ⟨.value x,args,ts⟩,type,pos,after,guard⟩).run c.P w = .ok (.enter f ((args.map a.eval)++(⟨cs⟩:Array Value))) w:=by
        simp only [execOp,resolve,hx',Deferred.ofValue,Awk,Awp,Awl,invoke,callFunc,run_program,hf,hname,Aqc,if_false,hbody]
        simp
      refine ZnD henter ?_
      rw [hall,<- ZfR ht]
      refine (hcall t _ _ w hk).mono ?_
      rintro ending w' (⟨r,rfl,hsame,hk⟩ | ⟨v,rfl,hsame,hk⟩)
      ·exact hn _ w' hsame hk
      ·exact hp9 v w' hsame hk
     ·cases hx9:ZDR f c.ext with
      | false=>rw [hx9] at hk;exact hk.elim
      | true =>
        rw [hx9] at hk
        simp only [cond_true] at hk
        split at hk
        ·rename_i y hy0
         obtain ⟨t,b,es',cl,hy,hb,hk⟩:=hk
         obtain ⟨w',hrun,hsame,hw'⟩:=hc.ext f (ZsN hx9) t b es' cl w hb
         refine Val.wp (K:=K) ⟨.val (.iface t (.map (some w.heap.size))),w',?_,hsame,by rw [hw'];exact hk⟩ hn
         have hargs':(args.map a.eval)++(⟨cs⟩:Array Value) = #[.iface t (.map (some b))]:=by rw [hall,hy0];simp [hy]
         have hcap:(#[]++args.map a.eval)++(⟨cs⟩:Array Value) = #[.iface t (.map (some b))]:=by rw [Array.empty_append];exact hargs'
         simp only [execOp,resolve,hx',Deferred.ofValue,Awk,Awp,Awl,invoke,hcap]
         simpa [EV.v] using hrun
        ·exact hk.elim
    ·exact hk.elim
   ·rename_i l hx
    split at hk
    ·rename_i es hv
     have hx':a.eval x=Value.func (.yield l) #[] #[]:=hag.ev hx
     obtain ⟨fn,tmps,assign,body,hrun,hround⟩:=hc.yld l _ _ w hk
     refine ZyS (l:=l) (f:=fn) (tmps:=tmps) (assign:=assign) (body:=body) (k:=fun b w'=>Same w w'/\K (.val (.bool b)) w'.heap) ?_ hround fun b w' h=>hn _ w' h.1 h.2
     have hargs:args.map a.eval=(es.map EV.v).toArray:=ZcU hag hv
     simp only [execOp,resolve,hx',Deferred.ofValue,Awk,Awp,Awl,invoke,hargs]
     simpa using hrun
    ·exact hk.elim
   ·exact hk.elim
  ·
   rename_i args ts ho
   cases ho
   split at hk
   ·rename_i t m k ht hv
    split at hk
    ·rename_i kt et hu
     split at hk
     ·rename_i d hd
      obtain ⟨hkey,hk1⟩:=ZeB hk
      clear hk
      have hargs:=ZcU hag hv
      obtain ⟨w',hr,hs',hk⟩:=ZtA (P:=c.P) (ts:=ts) (ty:=type) ht hu hd hkey hk1
      refine Val.wp (K:=K) ⟨.val (.tuple #[]),w',?_,hs',hk⟩ hn
      refine Xj (s:=Builtin.delete_ ts type #[.map m,k.v]) (fun ty cs=>?_) hr
      rw [hargs];rfl
     ·exact hk.elim
    ·exact hk.elim
   ·exact hk.elim
  ·
   rename_i x name args ts ho
   cases ho
   split at hk
   ·rename_i v es hx hv
    obtain ⟨t,f,p,y,hmem,hvv,hp,hk⟩:=Zqe hk
    have hm:Ztc c.P name t f:=hc.dyn _ hmem
    obtain ⟨hcm,ht⟩:=Zjd hp
    obtain ⟨⟨fn,hf,hname,hbody⟩,hcall⟩:=hc.calls _ hcm
    dsimp only at hf hname hbody hcall
    have hx':a.eval x = .iface t (p.a0.ev y).v:=(hag.ev hx).trans hvv
    have hall:(#[(p.a0.ev y).v]:Array Value)++(args.map a.eval)=((Xw.evs (p.a0::p.rest) (y,p.t)).map EV.v).toArray:=by
      rw [ZcU hag hv]
      simp only [Xw.evs,Awo,ZfR ht]
      simp
    have henter:(execOp a.eval ⟨dst,.call ⟨.invoke x name,args,ts⟩,type,pos,after,guard⟩).run c.P w = .ok (.enter f ((#[(p.a0.ev y).v]:Array Value)++(args.map a.eval))) w:=by
      have hcut:((#[a.eval x]:Array Value)++args.map a.eval).extract 1 ((#[a.eval x]:Array Value)++args.map a.eval).size=args.map a.eval:=by
        apply Axe
        simp only [Array.toList_extract,Array.toList_append,Array.size_append]
        simp
        rw [Awd (by simp)]
      have h0:((#[a.eval x]:Array Value)++args.map a.eval)[0]?=some (a.eval x):=by rw [<- Axr,Array.toList_append];rfl
      simp only [execOp,resolve,Awk,Awp,Awl,invoke,h0,hcut]
      rw [hx']
      have hm':=hm (p.a0.ev y).v w
      simp only [callMethod,Awk,run_program,Awl]
      rw [hm']
      simp only [callFunc,Awk,run_program,Awl,hf,hname,Aqc,if_false,hbody,Awp]
    refine ZnD henter ?_
    rw [hall]
    refine (hcall (y,p.t) _ _ w hk).mono ?_
    rintro ending w' (⟨r,rfl,hsame,hk⟩ | ⟨v,rfl,hsame,hk⟩)
    ·exact hn _ w' hsame hk
    ·exact hp9 v w' hsame hk
   ·exact hk.elim
  ·
   rename_i args ts ho
   cases ho
   split at hk
   ·rename_i t m ht hv
    split at hk
    ·rename_i kt et hu
     have hargs:=ZcU hag hv
     obtain ⟨w',hr,hs',hk⟩:=ZtC (P:=c.P) (ts:=ts) (ty:=type) ht hu hk
     refine Val.wp (K:=K) ⟨.val (.tuple #[]),w',?_,hs',hk⟩ hn
     refine Xj (s:=Builtin.clear_ ts type #[.map m]) (fun ty cs=>?_) hr
     rw [hargs];rfl
    ·exact hk.elim
   ·rename_i t q l m ht hv
    split at hk
    ·rename_i el hu
     split at hk
     ·rename_i zs hz
      have hargs:=ZcU hag hv
      obtain ⟨w',hr,hs',hk⟩:=ZtB (P:=c.P) (ts:=ts) (ty:=type) ht hu hz hk
      refine Val.wp (K:=K) ⟨.val (.tuple #[]),w',?_,hs',hk⟩ hn
      refine Xj (s:=Builtin.clear_ ts type #[.slice q l m]) (fun ty cs=>?_) hr
      rw [hargs];rfl
     ·exact hk.elim
    ·exact hk.elim
   ·exact hk.elim
  ·exact hk.elim
theorem Zti {P:Program} {t:TypeId} {z:Value} (h:ZCq P t=some z):∃ i,P.info? t=some i/\i.zero=some z:=by
  unfold ZCq at h
  split at h
  ·rename_i i hi
   exact ⟨i,hi,h⟩
  ·cases h
theorem Ztm (hag:Agr c.n e a) {t:TypeId} {x i:Operand} {ok:Bool} (hk:opP c (.lookup t x i ok) e h K):ZrP c ⟨dst,.lookup t x i ok,type,pos,after,guard⟩ a h K:=by
  simp only [opP] at hk
  split at hk
  ·rename_i kt et m k hu hx hi
   split at hk
   ·rename_i d z hd hz
    obtain ⟨inf,hinf,hiz⟩:=Zti hz
    obtain ⟨r,hr,hk⟩:=ZqY (P:=c.P) hu hd hinf hiz hk
    obtain ⟨u,hu',hk⟩:=Zjr hk
    refine ZrP.of (v:=bif ok then .val (.tuple #[u.v,.bool r.isSome]) else u) (s:=Instr.lookup t (a.eval x) (a.eval i) ok) rfl (fun w hw=>?_) hk
    rw [hag.ev hx,hag.ev hi]
    have:=hr ok w hw
    rw [<- hu'] at this
    cases ok<;>exact this
   ·exact hk.elim
  ·exact hk.elim
theorem ZpM (hag:Agr c.n e a) {t:TypeId} {m k x:Operand} {next:Act->World->Prop} {Q:Exit->Act->World->Prop} (hk:opP c (.mapUpdate t m k x) e w.heap K)
    (hn:∀ v w',Same w w'->K v w'.heap->next (a.put dst v.v) w'):(⟨dst,.mapUpdate t m k x,type,pos,after,guard⟩:Oper).wpIn (fen c.rnd) 0 c.P a w next Q:=by
  simp only [opP] at hk
  split at hk
  ·rename_i kt et m' k' x' hu hm hkk hx
   split at hk
   ·rename_i d hd
    obtain ⟨w',hr,hs',hk⟩:=Zk7 (P:=c.P) hu hd hk
    refine ZnC (w':=w') ?_ (hn (.val undef) _ hs' hk)
    refine ZCM (s:=Instr.mapUpdate t (a.eval m) (a.eval k) (a.eval x)) ?_
    rw [hag.ev hm,hag.ev hkk,hag.ev hx]
    exact hr
   ·exact hk.elim
  ·exact hk.elim
theorem ZxA (hag:Agr c.n e a) {t:TypeId} {m k x:Operand} {next:Act->World->Prop} {Q:Exit->Act->World->Prop} (hk:opP c (.insert t m k x) e w.heap K)
    (hn:∀ v w',Same w w'->K v w'.heap->next (a.put dst v.v) w'):(⟨dst,.insert t m k x,type,pos,after,guard⟩:Oper).wpIn (fen c.rnd) 0 c.P a w next Q:=by
  simp only [opP] at hk
  split at hk
  ·rename_i kt et m' k' x' hu hm hkk hx
   split at hk
   ·rename_i d hd
    obtain ⟨w',hr,hs',hk⟩:=Zk7 (P:=c.P) hu hd hk
    refine ZnC (w':=w') ?_ (hn (.val undef) _ hs' hk)
    refine ZCM (s:=Instr.mapUpdate t (a.eval m) (a.eval k) (a.eval x)) ?_
    rw [hag.ev hm,hag.ev hkk,hag.ev hx]
    exact hr
   ·exact hk.elim
  ·exact hk.elim
theorem ZjD (hag:Agr c.n e a) {t:TypeId} {x:Operand} (hk:opP c (.makeInterface t x) e h K):Zd1 c ⟨dst,.makeInterface t x,type,pos,after,guard⟩ a h K:=by
  simp only [opP] at hk
  split at hk
  ·rename_i v hv
   cases hb:ZgM (c.P.underlying t) with
   | true=>rw [hb] at hk;exact hk.elim
   | false =>
     rw [hb] at hk
     refine Zd1.of (v:= .val (.iface t v.v)) (s:=Instr.makeInterface t (a.eval x)) rfl (fun w _=>?_) hk
     rw [hag.ev hv]
     exact ZjK hb
  ·exact hk.elim
theorem Zhp (hag:Agr c.n e a) {f:Fn} {first caps:Array Operand} (hk:opP c (.makeFunc f first caps) e h K):Zd1 c ⟨dst,.makeFunc f first caps,type,pos,after,guard⟩ a h K:=by
  cases f with
  | func g =>
    simp only [opP] at hk
    split at hk
    ·rename_i es hfi hv
     refine Zd1.of (v:= .val (.func (.func g) ⟨[]⟩ ⟨es.map EV.v⟩)) (s:=Instr.makeFunc (.func g) (first.map a.eval) (caps.map a.eval)) rfl (fun w _=>?_) hk
     have h1:first = #[]:=by apply Axe;exact hfi
     rw [ZcU hag hv,h1]
     simp [Instr.makeFunc,EV.v]
    ·exact hk.elim
  | _=>simp [opP] at hk
theorem Zk6 {P:Program} {t xt:TypeId} {v:Value} {w:World} (h:ZgM (P.underlying t)=false):(Instr.typeAssert (.iface t v) xt t true).run P w = .ok (.tuple #[v,.bool true]) w:=by
  unfold Instr.typeAssert
  cases hu:P.underlying t with
  | none=>rw [hu] at h;cases h
  | some d =>
    rw [hu] at h
    simp only [Awk,Zg P w t hu,Awl]
    cases d<;>first
      | (simp only [if_true];rfl)
      | cases h
theorem Zl7 (hag:Agr c.n e a) {t xt:TypeId} {x:Operand} {ok:Bool} (hk:opP c (.typeAssert x xt t ok) e h K):Zd1 c ⟨dst,.typeAssert x xt t ok,type,pos,after,guard⟩ a h K:=by
  simp only [opP] at hk
  split at hk
  ·rename_i v hv
   cases hb:ZgM (c.P.underlying t) with
   | true=>rw [hb] at hk;exact hk.elim
   | false =>
     rw [hb] at hk
     cases ok with
     | false =>
       obtain ⟨y,hy,hk⟩:=hk
       obtain ⟨u,hu',hk⟩:=Zl2 hk
       refine Zd1.of (v:=u) (s:=Instr.typeAssert (a.eval x) xt t false) rfl (fun w _=>?_) hk
       rw [hag.ev hv,hy,hu']
       exact Zme hb
     | true =>
       simp only [cond_false,cond_true] at hk
       split at hk
       ·rename_i t' u
        cases ht:Nat.beq t' t with
        | false=>rw [ht] at hk;exact hk.elim
        | true =>
          rw [ht] at hk
          have:=Awg ht
          subst this
          refine Zd1.of (v:= .val (.tuple #[u,.bool true])) (s:=Instr.typeAssert (a.eval x) xt t' true) rfl (fun w _=>?_) hk
          rw [hag.ev hv]
          exact Zk6 hb
       ·exact hk.elim
  ·exact hk.elim
theorem Zwc (hag:Agr c.n e a) {t:TypeId} {x:Operand} (hk:opP c (.range t x) e w.heap K):Val c ⟨dst,.range t x,type,pos,after,guard⟩ a w K:=by
  simp only [opP] at hk
  split at hk
  ·rename_i kt et m hu hx
   cases m with
   | none =>
     refine Val.of (v:= .itr t w.heap.size) (w':=w.alloc (.mapIter none 0 #[] 0)) (s:=Instr.range t (a.eval x)) rfl ?_ ⟨rfl,rfl,rfl⟩ (hk.1 rfl)
     rw [hag.ev hx]
     exact run_range_nilMap w t _ _ hu
   | some b =>
     obtain ⟨es,cl,hb,hk⟩:=hk.2 b rfl
     refine Val.of (v:= .itr t w.heap.size) (w':=w.alloc (.mapIter (some b) cl #[] cl)) (s:=Instr.range t (a.eval x)) rfl ?_ ⟨rfl,rfl,rfl⟩ hk
     rw [hag.ev hx]
     exact run_range_map w t _ _ b es cl hu hb
  ·exact hk.elim
theorem ZyX (hag:Agr c.n e a) {x:Operand} {q:Bool} (hk:opP c (.next x q) e w.heap K):Val c ⟨dst,.next x q,type,pos,after,guard⟩ a w K:=by
  cases q with
  | true=>exact hk.elim
  | false =>
    simp only [opP] at hk
    split at hk
    ·rename_i t b hx
     have hx':a.eval x = .pointer (some ⟨b,0,none⟩):=hag.ev hx
     rcases hk with ⟨s,seen,cc,hb,hk⟩ | ⟨bm,since,seen,c0,es,clock,hr,hb,hold,hsc,hF,hT⟩
     ·refine Val.of (v:= .over) (w':=w) (s:=Instr.next (a.eval x) false type) rfl ?_ (Same.refl w) hk
      rw [hx']
      simp [Instr.next,getObj,Sem.run,hb,Result.andThen,EV.v]
     ·rcases run_next_at (P:=c.P) w type b bm since c0 seen es clock hr hb hold hsc with ⟨h0,hrun⟩ | ⟨en,hen,w1,hw1,hrun⟩
      ·refine Val.of (v:= .over) (w':=w) (s:=Instr.next (a.eval x) false type) rfl ?_ (Same.refl w) (hF h0)
       rw [hx']
       exact hrun
      ·have hh:w1.heap=w.heap:=by rcases hw1 with rfl | rfl<;>rfl
       have hsm:Same w w1:=by rcases hw1 with rfl | rfl<;>exact ⟨rfl,rfl,rfl⟩
       refine Val.of (v:= .more en.key en.val) (w':=ChangeMaps.setBlock w1 b (.mapIter (some bm) since (seen.push en.born) clock)) (s:=Instr.next (a.eval x) false type) rfl ?_ ⟨hsm.1,hsm.2.1,hsm.2.2⟩ ?_
       ·rw [hx']
        exact hrun
       ·have:=hT en hen
        rw [<- hh] at this
        exact this
    ·exact hk.elim
theorem Zwe (hag:Agr c.n e a) {x:Operand} (hk:opP c (.entry x) e h K):ZrP c ⟨dst,.entry x,type,pos,after,guard⟩ a h K:=by
  simp only [opP] at hk
  split at hk
  ·rename_i t b hx
   have hx':a.eval x = .pointer (some ⟨b,0,none⟩):=hag.ev hx
   split at hk
   ·rename_i kt et hu
    obtain ⟨bm,since,seen,es,clock,en,hr,hb,hen,hnd,hk⟩:=hk
    obtain ⟨k',hk',hk⟩:=Zjr hk
    obtain ⟨v',hv',hk⟩:=Zjr hk
    refine ZrP.of (v:= .val (.tuple #[k'.v,v'.v])) (s:=Instr.entry (a.eval x)) rfl (fun w hw=>?_) hk
    subst hw
    rw [hx',hk',hv']
    exact run_entry_at (P:=c.P) w b bm since seen es clock en hr hb hen hnd
   ·exact hk.elim
  ·exact hk.elim
theorem Zzb (hag:Agr c.n e a) {t:TypeId} {x y:Operand} {next:Act->World->Prop} {Q:Exit->Act->World->Prop} (hk:opP c (.store t x y) e w.heap K)
    (hn:∀ v w',Same w w'->K v w'.heap->next (a.put dst v.v) w'):(⟨dst,.store t x y,type,pos,after,guard⟩:Oper).wpIn (fen c.rnd) 0 c.P a w next Q:=by
  simp only [opP] at hk
  split at hk
  ·rename_i u v hu hv
   obtain ⟨b,o,hp,hk⟩:=Zh8 hk
   obtain ⟨h',hr,hk⟩:=Zzd hk
   refine ZnC (w':={ w with heap:=h' }) ?_ (hn (.val undef) _ ⟨rfl,rfl,rfl⟩ hk)
   refine ZCM (s:=Instr.storeAt t (a.eval x) (a.eval y)) ?_
   rw [hag.ev hu,hag.ev hv,hp]
   exact ZqX hr
  ·exact hk.elim
theorem Zso (hc:c.OK) (hag:Agr c.n e a) {o:Oper} {next:Act->World->Prop} {Q:Exit->Act->World->Prop} (hp9:∀ v w',Same w w'->c.pan v w'.heap->Q (.panic [{ v,recovered:=false }]) a w') (hk:opP c o.op e w.heap K)
    (hn:∀ v w',Same w w'->K v w'.heap->next (a.put o.dst v.v) w'):o.wpIn (fen c.rnd) 0 c.P a w next Q:=by
  obtain ⟨dst,op,type,pos,after,guard⟩:=o
  cases op
  case panic x =>
    have hk:(match e.ev x with | some (.val (.iface t v))=>c.pan (.iface t v) w.heap | _=>False):=hk
    split at hk
    ·rename_i t v hx
     refine ZyT (fun _ h=>by cases h) (v:= .iface t v) ?_ (hp9 _ w (Same.refl w) hk)
     have hx':a.eval x = .iface t v:=hag.ev hx
     simp only [execOp,hx',Instr.panic,Awk]
     rfl
    ·exact hk.elim
  case move=>exact (ZnL hag hk).val.wp hn
  case assign=>exact (ZjE hag hk).val.wp hn
  case pick=>exact (ZnK hag hk).val.wp hn
  case alloc=>exact (Zwf hk).wp hn
  case box=>exact (ZCx hag hk).wp hn
  case build=>exact (ZkV hag hk).val.wp hn
  case buildSlice=>exact (Zl8 hag hk).wp hn
  case load=>exact (ZnN hag hk).val.wp hn
  case store=>exact Zzb hag hk hn
  case nilCheck=>exact (Zho hag hk).val.wp hn
  case binOp=>exact (ZkW hag hk).val.wp hn
  case unOp=>exact (ZnJ hag hk).val.wp hn
  case convert=>exact (ZqN hag hk).wp hn
  case makeSlice=>exact (ZnM hag hk).wp hn
  case slice=>exact (ZkS hag hk).val.wp hn
  case fieldAddr=>exact (ZgB hag hk).val.wp hn
  case field=>exact (ZkU hag hk).val.wp hn
  case indexAddr=>exact (ZgA hag hk).val.wp hn
  case index=>exact (ZkT hag hk).val.wp hn
  case extract=>exact (Zis hag hk).val.wp hn
  case call=>exact ZDE hc hag hp9 hk hn
  case makeMap t r =>
    cases r with
    | some x=>exact hk.elim
    | none=>exact (Val.of (v:= .val (.map (some w.heap.size))) (w':={ w with heap:=w.heap.push (.map #[] 0)}) (s:=Instr.makeMap t none) rfl rfl ⟨rfl,rfl,rfl⟩ hk).wp hn
  case lookup=>exact (Ztm hag hk).val.wp hn
  case mapUpdate=>exact ZpM hag hk hn
  case insert=>exact ZxA hag hk hn
  case range=>exact (Zwc hag hk).wp hn
  case next=>exact (ZyX hag hk).wp hn
  case entry=>exact (Zwe hag hk).val.wp hn
  case makeInterface=>exact (ZjD hag hk).val.wp hn
  case makeFunc=>exact (Zhp hag hk).val.wp hn
  case typeAssert=>exact (Zl7 hag hk).val.wp hn
  all_goals exact hk.elim
theorem ZE2 (hc:c.OK) (hag:Agr c.n e a) {o:Oper} {next:Act->World->Prop} {Q:Exit->Act->World->Prop} (hp9:∀ v w',Same w w'->c.pan v w'.heap->Q (.panic [{ v,recovered:=false }]) a w') (hk:opQ c o e w.heap K)
    (hn:∀ v w',Same w w'->K v w'.heap->next (a.put o.dst v.v) w'):o.wpIn (fen c.rnd) 0 c.P a w next Q:=by
  obtain ⟨dst,op,type,pos,after,guard⟩:=o
  cases op
  case assign x =>
    have hk:(bif Zxx (c.P.underlying type) then (match e.ev x with
      | some v=>K v w.heap
      | none=>False) else opP c (.assign x) e w.heap K):=hk
    cases hb:Zxx (c.P.underlying type) with
    | false =>
      rw [hb] at hk
      exact Zso hc hag (o:=⟨dst,.assign x,type,pos,after,guard⟩) hp9 hk hn
    | true =>
      rw [hb] at hk
      simp only [cond_true] at hk
      split at hk
      ·rename_i v hv
       have hp:Zd1 c ⟨dst,.assign x,type,pos,after,guard⟩ a w.heap K:=⟨v,fun w hw=>by simp [execOp,hag.ev hv],hk⟩
       exact hp.val.wp hn
      ·exact hk.elim
  all_goals exact Zso hc hag (o:=⟨dst,_,type,pos,after,guard⟩) hp9 hk hn
end
abbrev Zjy:=List (Nat × (World->Prop))
def Zjy.all (L:Zjy) (w:World):Prop:=∀ p,p∈L->p.2 w
def Zjy.waits (ops:Array Oper) (j i:Nat):Prop:=∃ o,ops[j]?=some o/\∃ e∈o.after,Region.binds .any e=true/\e.on=i
def Zfl (ops:Array Oper):Prop:=∀ (j:Nat) (o:Oper),ops[j]?=some o->∀ c,o.op≠ .defer c
theorem ZtS {ops:Array Oper} (h:Zjh ops.toList=true):Zfl ops:=by
  have key:∀ (l:List Oper),Zjh l=true->∀ (j:Nat) (o:Oper),l[j]?=some o->∀ c,o.op≠ .defer c:=by
    intro l
    induction l with
    | nil=>intro _ j o ho;simp at ho
    | cons x xs ih =>
      intro h j o ho c hc
      simp only [Zjh] at h
      cases hd:Zxy x.op with
      | true=>rw [hd] at h;cases h
      | false =>
        rw [hd] at h
        cases j with
        | zero=>simp at ho;subst ho;rw [hc] at hd;cases hd
        | succ j=>exact ih h j o (by simpa using ho) c hc
  intro j o ho
  exact key _ h j o (by simpa using ho)
def wpK (rn:Option Nat) (P:Program) (ops:Array Oper) (Q:Exit->Act->World->Prop) (nx:Zjy->Nat->Zjy):Zjy->Nat->Array Bool->Act->World->Prop
  | _,0,listed,a,w=>Region.ready .any ops listed=[]/\Q .normal a w
  | L,fuel+1,listed,a,w =>
    (Region.ready .any ops listed=[]->Q .normal a w) /\
    ∀ i∈Region.ready .any ops listed,wpOpIn (fen rn) 0 P ops Q i (fun a' w'=>(nx L i).all w'/\wpK rn P ops Q nx (nx L i) fuel (listed.setIfInBounds i true) a' w') a w
theorem ZfG {rn:Option Nat} {P:Program} {ops:Array Oper} {Q:Exit->Act->World->Prop} {S:World->Prop} {i:Nat} {o:Oper} {v:Value} {a:Act} (hnd:Zfl ops) (hi:ops[i]?=some o) (hy:YieldsIf P ops S o v a)
    {K:Act->World->Prop} {w:World} (hS:S w) (h:K (a.put o.dst v) w):wpOpIn (fen rn) 0 P ops Q i K a w:=by
  unfold Go.wpOpIn
  simp only [hi]
  rcases hy with ⟨hw,hv⟩ | ⟨hw,rfl⟩
  ·simp only [hw,if_true]
   exact ZAl (hv w hS) h
  ·simp only [hw,Aqc,if_false];exact ⟨fun _ _=>trivial,h⟩
theorem ZqJ {rn:Option Nat} {P:Program} {ops:Array Oper} {Q:Exit->Act->World->Prop} {S:World->Prop} (hnd:Zfl ops) {j:Nat} {oi oj:Oper} {v:Value} (hj:ops[j]?=some oj) (hap:oi.apart ops oj=true)
    (hsi:∀ cs b,oi.op≠ .select cs b) (hsj:∀ cs b,oj.op≠ .select cs b)
    (hQ:∀ c a w,Q (.panic c) (a.put oi.dst v) w->Q (.panic c) a w) {K:Act->World->Prop} {a:Act} {w:World}
    (hy:YieldsIf P ops S oi v a) (h:wpOpIn (fen rn) 0 P ops Q j K (a.put oi.dst v) w) :
    wpOpIn (fen rn) 0 P ops Q j (fun a' w'=>YieldsIf P ops S oi v a'/\K (a'.put oi.dst v) w') a w:=by
  obtain ⟨h1,h2,h3⟩:=Oper.apart_spec hap
  have keep:∀ (a:Act),YieldsIf P ops S oi v a->∀ u,YieldsIf P ops S oi v (a.put oj.dst u):=fun a hy u =>
    hy.of_same (execOp_put oi hsi a oj.dst u h3) (wanted_put oi a oj.dst u h3)
  have keepD:∀ d,YieldsIf P ops S oi v { a with defers:=d::a.defers }:=fun d=>hy.of_same rfl rfl
  have hndj:=hnd j oj hj
  unfold wpOpIn at *
  simp only [hj] at *
  rw [wanted_put oj a oi.dst v h1] at h
  split
  ·rename_i hw
   simp only [hw,if_true] at h
   unfold Oper.wpIn at *
   refine ⟨fun _ _=>trivial,?_⟩
   have h:=h.2
   rw [Oper.semAt_eq _ _ _ hndj,execOp_put oj hsj a oi.dst v h1] at h
   rw [Oper.semAt_eq _ _ _ hndj]
   generalize (execOp a.eval oj).run P w=r at *
   cases r with
   | ok x w' =>
     cases x<;>simp only [Oper.uponIn] at h ⊢
     case value u=>exact ⟨keep a hy u,by rw [<- Act.put_comm a v u h2];exact h⟩
     case skip=>exact ⟨keep a hy _,by rw [<- Act.put_comm a v undef h2];exact h⟩
     case defer d =>
       refine ⟨keep _ (keepD d) _,?_⟩
       rw [<- Act.put_comm _ v undef h2,<- Act.put_defers]
       exact h
     case enter f args =>
       refine ⟨h.1,CallsIn.mono h.2 fun e w'' he=>?_⟩
       cases e with
       | returned u=>exact ⟨keep a hy u,by rw [<- Act.put_comm a v u h2];exact he⟩
       | panicked c=>exact hQ _ _ _ he
       | outgrown=>exact he
     case row row args=>exact ⟨h.1,RowsIn.mono h.2 fun u w'' he=>⟨keep a hy u,by rw [<- Act.put_comm a v u h2];exact he⟩⟩
     case round l f tmps assign body =>
       refine ⟨h.1,RoundIn.mono h.2 fun e w'' he=>?_⟩
       cases e with
       | returned u=>exact ⟨keep a hy u,by rw [<- Act.put_comm a v u h2];exact he⟩
       | panicked c=>exact hQ _ _ _ he
       | outgrown=>exact he
   | halt x w' =>
     cases x<;>simp only [Oper.uponIn] at h ⊢
     case panic u=>exact hQ _ _ _ h
  ·rename_i hw
   simp only [hw] at h
   exact ⟨fun _ _=>trivial,keep a hy _,by rw [<- Act.put_comm a v undef h2];exact h.2⟩
section
variable {rn:Option Nat} {P:Program} {ops:Array Oper} {Q:Exit->Act->World->Prop} {nx:Zjy->Nat->Zjy}
theorem ZvY:∀ (fuel:Nat) (L:Zjy) (listed:Array Bool) (a:Act) (w:World),wpK rn P ops Q nx L fuel listed a w->wpAnyIn (fen rn) 0 P .any ops Q fuel listed a w
  | 0,_,_,_,_,h=>h
  | fuel+1,_,_,_,_,h=>⟨h.1,fun i hi=>wpOpIn_mono (fun a' w' h'=>ZvY fuel _ _ a' w' h'.2) (h.2 i hi)⟩
structure Next (ops:Array Oper) (nx:Zjy->Nat->Zjy):Prop where
  mem:∀ L j p,p∈nx L j->p∈L
  keep:∀ L j p,p∈L->¬ Zjy.waits ops j p.1->p∈nx L j
  same:∀ L L' j p,p∈nx L' j->p∈L->p∈nx L j
theorem Zgz (hn:Next ops nx):∀ (fuel:Nat) (L L':Zjy) (listed:Array Bool) (a:Act) (w:World),(∀ p,p∈L'->p∈L\/∀ w,p.2 w) ->
    wpK rn P ops Q nx L fuel listed a w->wpK rn P ops Q nx L' fuel listed a w
  | 0,_,_,_,_,_,_,h=>h
  | fuel+1,L,L',_,_,_,hs,h=>⟨h.1,fun i hi=>wpOpIn_mono (fun a' w' h'=>by
      have hs':∀ p,p∈nx L' i->p∈nx L i\/∀ w,p.2 w:=fun p hp=>(hs p (hn.mem _ _ _ hp)).imp (hn.same L L' i p hp) id
      exact ⟨fun p hp=>(hs' p hp).elim (h'.1 p) (fun h=>h w'),Zgz hn fuel _ _ _ _ _ hs' h'.2⟩) (h.2 i hi)⟩
theorem ZvX (hnd:Zfl ops) (hn:Next ops nx) {i:Nat} {oi:Oper} {v:Value} {S:World->Prop} (hi:ops[i]?=some oi) (hsel:∀ (j:Nat) (o:Oper) cs b,ops[j]?=some o->o.op≠ .select cs b)
    (hQ:∀ c a w,Q (.panic c) (a.put oi.dst v) w->Q (.panic c) a w) :
    ∀ (fuel:Nat) (L:Zjy) (listed:Array Bool) (a:Act) (w:World),
      (∀ j oj,ops[j]?=some oj->j≠i->listed.getD j true=false->(∀ e∈oj.after,Region.binds .any e=true->e.on≠i)->oi.apart ops oj=true) ->
      i∈Region.ready .any ops listed->YieldsIf P ops S oi v a->S w->Zjy.all L w ->
      wpK rn P ops Q nx ((i,S)::L) fuel (listed.setIfInBounds i true) (a.put oi.dst v) w->wpK rn P ops Q nx L (fuel+1) listed a w:=by
  intro fuel
  induction fuel with
  | zero =>
    intro L listed a w _ hr hy hS hL H
    refine ⟨fun h=>(by rw [h] at hr;cases hr),fun j hj=>?_⟩
    by_cases hji:j=i
    ·subst hji
     exact ZfG hnd hi hy hS ⟨fun p hp=>hL p (hn.mem _ _ _ hp),H⟩
    ·have:=ready_mono hj hji
     rw [H.1] at this
     cases this
  | succ fuel ih =>
    intro L listed a w hfree hr hy hS hL H
    refine ⟨fun h=>(by rw [h] at hr;cases hr),fun j hj=>?_⟩
    by_cases hji:j=i
    ·subst hji
     exact ZfG hnd hi hy hS ⟨fun p hp=>hL p (hn.mem _ _ _ hp),Zgz hn _ _ _ _ _ _ (fun p hp=> .inl (.tail _ (hn.mem _ _ _ hp))) H⟩
    ·have h1:=H.2 j (ready_mono hj hji)
     obtain ⟨hjun,oj,hoj,hall⟩:=mem_ready.1 hj
     have hnot:∀ e∈oj.after,Region.binds .any e=true->e.on≠i:=fun e he hb heq=>by
       have h1:=hall e he hb
       have h0:=(mem_ready.1 hr).1
       rw [heq] at h1
       rcases Aqd i listed.size with h' | h'
       ·simp [h'] at h0 h1;rw [h0] at h1;cases h1
       ·simp [Aqe h'] at h1
     have h2:=ZqJ hnd hoj (hfree j oj hoj hji hjun hnot) (fun cs b=>hsel i oi cs b hi) (fun cs b=>hsel j oj cs b hoj) hQ hy h1
     have hfree':∀ k ok,ops[k]?=some ok->k≠i->(listed.setIfInBounds j true).getD k true=false ->
         (∀ e∈ok.after,Region.binds .any e=true->e.on≠i)->oi.apart ops ok=true:=fun k ok hk hki hun hno=>by
       refine hfree k ok hk hki ?_ hno
       by_cases hjk:j=k
       ·subst hjk;exact hjun
       ·rw [getD_set_ne true hjk] at hun;exact hun
     have hmem:((i,S):Nat × (World->Prop))∈nx ((i,S)::L) j:=by
       refine hn.keep _ _ _ (.head _) ?_
       rintro ⟨o',ho',e,he,hb,hon⟩
       rw [hoj] at ho'
       cases ho'
       exact hnot e he hb hon
     refine wpOpIn_mono (fun a' w' h3=>?_) h2
     obtain ⟨hy',hall',hrest⟩:=h3
     have hL':Zjy.all (nx L j) w':=fun p hp=>hall' p (hn.same _ _ _ _ hp (.tail _ (hn.mem _ _ _ hp)))
     refine ⟨hL',ih (nx L j) (listed.setIfInBounds j true) a' w' hfree' (ready_mono hr (Ne.symm hji)) hy' (hall' _ hmem) hL' ?_⟩
     rw [Array.setIfInBounds_comm _ _ hji]
     refine Zgz hn _ _ _ _ _ _ (fun p hp=> .inl ?_) hrest
     rcases Awr.1 hp with rfl | hp
     ·exact hmem
     ·exact hn.same _ _ _ _ hp (.tail _ (hn.mem _ _ _ hp))
theorem ZrT {i:Nat} {fuel:Nat} {L:Zjy} {listed:Array Bool} {a:Act} {w:World} (hr:∀ j,j∈Region.ready .any ops listed->j=i) (hm:i∈Region.ready .any ops listed)
    (h:wpOpIn (fen rn) 0 P ops Q i (fun a' w'=>(nx L i).all w'/\wpK rn P ops Q nx (nx L i) fuel (listed.setIfInBounds i true) a' w') a w):wpK rn P ops Q nx L (fuel+1) listed a w :=
  ⟨fun h0=>(by rw [h0] at hm;cases hm),fun j hj=>(hr j hj)▸h⟩
theorem ZCt {i j:Nat} {fuel:Nat} {L:Zjy} {listed:Array Bool} {a:Act} {w:World} (hr:∀ k,k∈Region.ready .any ops listed->k=i\/k=j) (hm:i∈Region.ready .any ops listed)
    (h1:wpOpIn (fen rn) 0 P ops Q i (fun a' w'=>(nx L i).all w'/\wpK rn P ops Q nx (nx L i) fuel (listed.setIfInBounds i true) a' w') a w)
    (h2:wpOpIn (fen rn) 0 P ops Q j (fun a' w'=>(nx L j).all w'/\wpK rn P ops Q nx (nx L j) fuel (listed.setIfInBounds j true) a' w') a w):wpK rn P ops Q nx L (fuel+1) listed a w :=
  ⟨fun h0=>(by rw [h0] at hm;cases hm),fun k hk=>(hr k hk).elim (fun e=>e▸h1) (fun e=>e▸h2)⟩
theorem ZyU {L:Zjy} {listed:Array Bool} {a:Act} {w:World} (hr:Region.ready .any ops listed=[]) (h:Q .normal a w) :
    ∀ fuel,wpK rn P ops Q nx L fuel listed a w
  | 0=>⟨hr,h⟩
  | _+1=>⟨fun _=>h,by rw [hr];simp⟩
end
theorem ZrJ (m i:Nat):Zgd m i=m.testBit i:=by
  unfold Zgd Nat.testBit
  have:Nat.land (Nat.shiftRight m i) 1=1 &&& (m >>> i):=by rw [Nat.and_comm];rfl
  rw [this]
  have h2:(1 &&& (m >>> i))<2:=by rw [Nat.and_comm,Nat.and_one_is_mod];omega
  generalize (1 &&& (m >>> i))=x at h2
  have:x=0\/x=1:=by omega
  rcases this with rfl | rfl<;>rfl
theorem ZoM (m i j:Nat):Zgd (Zn1 m i) j=(Zgd m j||decide (j=i)):=by
  rw [ZrJ,ZrJ]
  have:Zn1 m i=m ||| (1 <<< i):=rfl
  rw [this,Nat.testBit_or,Nat.one_shiftLeft,Nat.testBit_two_pow]
  congr 1
  exact decide_eq_decide.2 ⟨fun h=>h.symm,fun h=>h.symm⟩
theorem Ze9 {m:Nat}:∀ {es:List Edge},Znn m es=true↔∀ e∈es,Region.binds .any e=true->Zgd m e.on=true
  | []=>by simp [Znn]
  | e::es=>by
    simp only [Znn,Axs]
    cases hb:Region.binds .any e with
    | false=>simp only [cond_false,Ze9];simp
    | true =>
      cases hm:Zgd m e.on with
      | false=>simp
      | true=>simp only [cond_true,Ze9];simp
theorem ZhW {i:Nat}:∀ {es:List Edge},Zff i es=true↔∃ e,e∈es/\Region.binds .any e=true/\e.on=i
  | []=>by simp [Zff]
  | e::es=>by
    have ih:=ZhW (i:=i) (es:=es)
    simp only [Zff]
    cases hb:Nat.beq e.on i with
    | false =>
      have hne:=Awi hb
      simp only [cond_false,ih]
      constructor
      ·rintro ⟨x,hx,h⟩;exact ⟨x,.tail _ hx,h⟩
      ·rintro ⟨x,hx,h⟩
       rcases Awr.1 hx with rfl | hx
       ·exact absurd h.2 hne
       ·exact ⟨x,hx,h⟩
    | true =>
      have heq:=Awg hb
      simp only [cond_true]
      cases hr:Region.binds .any e with
      | true=>simp only [cond_true,true_iff];exact ⟨e,.head _,hr,heq⟩
      | false =>
        simp only [cond_false,ih]
        constructor
        ·rintro ⟨x,hx,h⟩;exact ⟨x,.tail _ hx,h⟩
        ·rintro ⟨x,hx,h⟩
         rcases Awr.1 hx with rfl | hx
         ·rw [hr] at h;cases h.1
         ·exact ⟨x,hx,h⟩
structure Rel (ops:Array Oper) (m:Nat) (listed:Array Bool):Prop where
  size:listed.size=ops.size
  bit:∀ j,listed.getD j false=Zgd m j
theorem Rel.zero (ops:Array Oper):Rel ops 0 (Array.replicate ops.size false) where
  size:=by simp
  bit j:=by
    rw [ZrJ,Nat.zero_testBit]
    rw [Axt,Array.getElem?_replicate]
    split<;>rfl
theorem Rel.set {ops:Array Oper} {m:Nat} {listed:Array Bool} (h:Rel ops m listed) {i:Nat} (hi:i<ops.size):Rel ops (Zn1 m i) (listed.setIfInBounds i true) where
  size:=by simp [h.size]
  bit j:=by
    rw [ZoM,<- h.bit j]
    by_cases hj:j=i
    ·subst hj
     have:j<listed.size:=by rw [h.size];exact hi
     simp [Axt,this]
    ·simp [Axt,Ne.symm hj,hj]
theorem Rel.bit' {ops:Array Oper} {m:Nat} {listed:Array Bool} (h:Rel ops m listed) {j:Nat} (hj:j<ops.size):listed.getD j true=Zgd m j:=by
  rw [<- h.bit j]
  have:j<listed.size:=by rw [h.size];exact hj
  simp [Axt,this]
theorem Rel.ready {ops:Array Oper} {m:Nat} {listed:Array Bool} (h:Rel ops m listed) {j:Nat}:j∈Region.ready .any ops listed↔∃ o,ops[j]?=some o/\Zca m j o=true:=by
  rw [mem_ready]
  constructor
  ·rintro ⟨h0,o,ho,hall⟩
   refine ⟨o,ho,?_⟩
   have hj:j<ops.size:=by
     rcases Aqd j ops.size with h | h
     ·exact h
     ·rw [Aqe h] at ho;cases ho
   unfold Zca
   rw [<- h.bit' hj,h0]
   simp only [cond_false]
   exact Ze9.2 fun e he hb=>by rw [<- h.bit];exact hall e (by simpa using he) hb
  ·rintro ⟨o,ho,hr⟩
   have hj:j<ops.size:=by
     rcases Aqd j ops.size with h | h
     ·exact h
     ·rw [Aqe h] at ho;cases ho
   unfold Zca at hr
   cases hb:Zgd m j with
   | true=>rw [hb] at hr;cases hr
   | false =>
     rw [hb] at hr
     simp only [cond_false] at hr
     exact ⟨by rw [h.bit' hj,hb],o,ho,fun e he hb=>by rw [h.bit];exact Ze9.1 hr e (by simpa using he) hb⟩
theorem ZjS {m i:Nat}:∀ {os:List Oper} {k:Nat},Zjf m i k os=true->∀ j o,os[j]?=some o->Zca m (k+j) o=true->k+j=i
  | [],k,_,j,o,ho,_=>by simp at ho
  | x::os,k,h,j,o,ho,hr=>by
    simp only [Zjf] at h
    cases hb:Nat.beq k i with
    | true =>
      rw [hb] at h
      cases j with
      | zero=>exact Awg hb
      | succ j =>
        have:=ZjS (k:=k+1) h j o (by simpa using ho) (by rw [show k+1+j=k+(j+1) from by omega];exact hr)
        omega
    | false =>
      rw [hb] at h
      simp only [cond_false] at h
      cases hx:Zca m k x with
      | true=>rw [hx] at h;cases h
      | false =>
        rw [hx] at h
        cases j with
        | zero =>
          simp at ho
          subst ho
          rw [Axk,hx] at hr
          cases hr
        | succ j =>
          have:=ZjS (k:=k+1) h j o (by simpa using ho) (by rw [show k+1+j=k+(j+1) from by omega];exact hr)
          omega
theorem ZiB {m i l:Nat}:∀ {os:List Oper} {k:Nat},ZmZ m i l k os=true->∀ j o,os[j]?=some o->Zca m (k+j) o=true->k+j=i\/k+j=l
  | [],k,_,j,o,ho,_=>by simp at ho
  | x::os,k,h,j,o,ho,hr=>by
    simp only [ZmZ] at h
    cases hb:(Nat.beq k i||Nat.beq k l) with
    | true =>
      rw [hb] at h
      cases j with
      | zero =>
        rw [Bool.or_eq_true] at hb
        exact hb.imp Awg Awg
      | succ j =>
        have:=ZiB (k:=k+1) h j o (by simpa using ho) (by rw [show k+1+j=k+(j+1) from by omega];exact hr)
        omega
    | false =>
      rw [hb] at h
      simp only [cond_false] at h
      cases hx:Zca m k x with
      | true=>rw [hx] at h;cases h
      | false =>
        rw [hx] at h
        cases j with
        | zero =>
          simp at ho
          subst ho
          rw [Axk,hx] at hr
          cases hr
        | succ j =>
          have:=ZiB (k:=k+1) h j o (by simpa using ho) (by rw [show k+1+j=k+(j+1) from by omega];exact hr)
          omega
theorem Znf {ops:Array Oper} {oi:Oper} {m i:Nat}:∀ {os:List Oper} {k:Nat},Zmm ops oi m i k os=true->∀ j o,os[j]?=some o->k+j≠i->Zgd m (k+j)=false ->
    (∀ e∈o.after,Region.binds .any e=true->e.on≠i)->oi.apart ops o=true
  | [],k,_,j,o,ho,_,_,_=>by simp at ho
  | x::os,k,h,j,o,ho,hne,hbit,hno=>by
    simp only [Zmm] at h
    generalize hc:(bif Nat.beq k i then true else bif Zgd m k then true else bif Zff i x.after.toList then true else oi.apart ops x)=c at h
    cases c with
    | false=>cases h
    | true =>
      simp only [cond_true] at h
      cases j with
      | succ j=>exact Znf (k:=k+1) h j o (by simpa using ho) (by omega) (by rw [show k+1+j=k+(j+1) from by omega];exact hbit) hno
      | zero =>
        simp at ho
        subst ho
        have hb:Nat.beq k i=false:=by
          cases hb:Nat.beq k i with
          | false=>rfl
          | true=>exact absurd (Awg hb) (by simpa using hne)
        rw [Axk] at hbit
        rw [hb,hbit] at hc
        simp only [cond_false] at hc
        cases hw:Zff i x.after.toList with
        | true =>
          obtain ⟨e,he,hb,hon⟩:=ZhW.1 hw
          exact absurd hon (hno e (by simpa using he) hb)
        | false=>rw [hw] at hc;exact hc
end Go.Fw
