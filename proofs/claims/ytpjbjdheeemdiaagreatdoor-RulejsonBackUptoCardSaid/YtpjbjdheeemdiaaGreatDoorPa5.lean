/- Why a reading is right: the operations, all of them, continued: slices, fields, indexes, calls. -/
import Derived.Maps.RangeRun
import Derived.OrdersHeld
import Derived.OrdersIn
import Derived.Test.YtpjbjdheeemdiaaGreatDoorPa4
set_option linter.unusedVariables false
set_option linter.unusedSimpArgs false
namespace Go.Fw
open Go
section
variable {c:Cfg} {e:Env} {a:Act} {w:World} {h:Zc} {K:EV->Zc->Prop} {dst:Option Tmp} {type:TypeId} {pos:String} {after:Array Edge} {guard:Option (Nat × Bool)}
theorem Zix (f:Agr c.n e a) {d n:Int} {x:Option Operand} (h:ZCe d (x.map e.ev)=some n):(x.map a.eval=none/\n=d)\/∃ k,x.map a.eval=some (.int k n):=by
  rcases Zym h with ⟨b,g⟩ | ⟨k,b⟩
  ·left
   cases x with
   | none=>exact ⟨rfl,g⟩
   | some x=>cases b
  ·right
   cases x with
   | none=>cases b
   | some x =>
     simp only [Aqx,Awh] at b
     exact ⟨k,by simp [f.ev b,EV.v]⟩
theorem Zmd (d:Agr c.n e a) {t:TypeId} {x:Operand} {q j k:Option Operand} (b:opP c (.slice t x q j k) e h K):Zev c ⟨dst,.slice t x q j k,type,pos,after,guard⟩ a h K:=by
  simp only [opP] at b
  split at b
  ·rename_i s hu r
   split at b
   ·rename_i l h f g
    obtain ⟨u,y,z,b⟩:=b
    refine Zev.of (s:=Instr.sliceAt t (a.eval x) (q.map a.eval) (j.map a.eval) (Option.map a.eval none)) rfl (fun w hw=>?_) b
    rw [d.ev r]
    exact Zkj hu (Zpk (m:=(s.size:Int)) (Zix d f) (Zix d g) (.inl ⟨rfl,rfl⟩) (fun _=>rfl) u y z (Int.le_refl _))
   ·exact b.elim
  ·rename_i el p l m hu r
   split at b
   ·rename_i D up most size bytes f g A E
    cases B:j.isNone&&k.isSome with
    | true=>rw [B] at b;exact b.elim
    | false =>
      rw [B] at b
      obtain ⟨u,y,z,F,b⟩:=b
      obtain ⟨i,o,C,_⟩:=ZfL E
      refine Zev.of (v:= .val (.slice _ _ _)) (s:=Instr.sliceAt t (a.eval x) (q.map a.eval) (j.map a.eval) (k.map a.eval)) rfl (fun w hw=>?_) b
      rw [d.ev r]
      refine ZkU hu o C (Zpk (Zix d f) (Zix d g) (Zix d A) ?_ u y z F)
      intro G
      cases j with
      | some _=>cases G
      | none =>
        cases k with
        | none=>rfl
        | some _=>cases B
   ·exact b.elim
  ·exact b.elim
theorem ZhB (g:Agr c.n e a) {s:TypeId} {x:Operand} {f:Nat} (d:opP c (.fieldAddr s x f) e h K):Zev c ⟨dst,.fieldAddr s x f,type,pos,after,guard⟩ a h K:=by
  simp only [opP] at d
  split at d
  ·rename_i fs v hu j
   split at d
   ·rename_i fd k
    cases i:Nat.beq (c.P.cellsOf fd.type) 0 with
    | true=>rw [i] at d;exact d.elim
    | false =>
      rw [i] at d
      obtain ⟨b,o,hp,d⟩:=Zjf d
      rw [ZtP] at d
      refine Zev.of (s:=Instr.fieldAt s (a.eval x) f) rfl (fun w hw=>?_) d
      rw [g.ev j,hp]
      exact Zs3 hu k (Awi i)
   ·exact d.elim
  ·exact d.elim
theorem Zmf (g:Agr c.n e a) {s:TypeId} {x:Operand} {f:Nat} (b:opP c (.field s x f) e h K):Zev c ⟨dst,.field s x f,type,pos,after,guard⟩ a h K:=by
  simp only [opP] at b
  split at b
  ·rename_i fs cs hu k
   split at b
   ·rename_i fd l
    cases hd:c.P.underlying fd.type with
    | none=>rw [hd] at b;exact b.elim
    | some d =>
      obtain ⟨i,m⟩:=Zba c.P hd
      rw [hd] at b
      cases j:Zca (some d) with
      | true =>
        rw [j,Zcb c.P m] at b
        refine Zev.of (v:= .val (.agg _)) (s:=Instr.field s (a.eval x) f) rfl (fun w hw=>?_) b
        rw [g.ev k]
        exact Zp6 hu l hd j m
      | false =>
        rw [j] at b
        simp only [cond_false] at b
        split at b
        ·rename_i v o
         refine Zev.of (v:= .val v) (s:=Instr.field s (a.eval x) f) rfl (fun w hw=>?_) b
         rw [g.ev k]
         exact Zp5 hu l hd j o
        ·exact b.elim
   ·exact b.elim
  ·exact b.elim
theorem ZhA (g:Agr c.n e a) {t:TypeId} {x i:Operand} (d:opP c (.indexAddr t x i) e h K):Zev c ⟨dst,.indexAddr t x i,type,pos,after,guard⟩ a h K:=by
  simp only [opP] at d
  split at d
  ·rename_i el p l m k n hu r u
   split at d
   ·rename_i size bytes y
    obtain ⟨b,o,rfl,z,A,d⟩:=d
    obtain ⟨inf,f,q,_⟩:=ZfL y
    refine Zev.of (s:=Instr.indexAt t (a.eval x) (a.eval i)) rfl (fun w hw=>?_) d
    rw [g.ev r,g.ev u]
    exact ZkW hu f q z A
   ·exact d.elim
  ·rename_i n el v k j hu r u
   split at d
   ·rename_i size bytes y
    obtain ⟨b,o,hp,d⟩:=Zjf d
    obtain ⟨z,A,d⟩:=d
    obtain ⟨inf,f,q,_⟩:=ZfL y
    refine Zev.of (s:=Instr.indexAt t (a.eval x) (a.eval i)) rfl (fun w hw=>?_) d
    rw [g.ev r,g.ev u,hp]
    exact ZkX hu f q z A
   ·exact d.elim
  ·exact d.elim
theorem ZnF {d:Option TypeDesc} {v:Value} {K:EV->Prop} (a:Zvk d v K):∃ u:EV,u.v=v/\K u:=by
  unfold Zvk at a
  split at a<;>first
    | exact a.elim
    | (obtain ⟨x,b,c⟩:=a;refine ⟨_,?_,c⟩;exact b.symm)
    | exact ⟨.val v,rfl,a⟩
theorem ZkD {P:Program} {t:TypeId} {v:Value} {K:EV->Prop} (a:ZFI P t v K):∃ u:EV,u.v=v/\K u:=by
  unfold ZFI at a
  cases b:Zca (P.underlying t) with
  | true =>
    rw [b] at a
    obtain ⟨r,c,d⟩:=a
    exact ⟨.val (.agg (Tup.vals _ r).toArray),c.symm,d⟩
  | false =>
    rw [b] at a
    exact ZnF a
theorem Zme (d:Agr c.n e a) {t:TypeId} {x i:Operand} (b:opP c (.index t x i) e h K):Zev c ⟨dst,.index t x i,type,pos,after,guard⟩ a h K:=by
  simp only [opP] at b
  split at b
  ·rename_i s k n hu f g
   obtain ⟨y,l,o,b⟩:=b
   refine Zev.of (v:= .val (.int .u8 y.toNat)) (s:=Instr.index t (a.eval x) (a.eval i)) rfl (fun w hw=>?_) b
   rw [d.ev f,d.ev g]
   exact ZlA hu l o
  ·rename_i n el cs k j hu f g
   split at b
   ·rename_i gs he
    obtain ⟨p,b⟩:=Zfd b
    obtain ⟨l,q,b⟩:=b
    obtain ⟨u,m,b⟩:=ZkD b
    refine Zev.of (v:=u) (s:=Instr.index t (a.eval x) (a.eval i)) rfl (fun w hw=>?_) b
    rw [d.ev f,d.ev g,m]
    exact Zmw hu he l q (Awg p)
   ·exact b.elim
  ·exact b.elim
theorem Zjw (d:Agr c.n e a) {x:Operand} {i:Nat} (b:opP c (.extract x i) e h K):Zev c ⟨dst,.extract x i,type,pos,after,guard⟩ a h K:=by
  simp only [opP] at b
  split at b
  ·rename_i m v' g
   cases f:Nat.beq i 0 with
   | false=>rw [f] at b;exact b.elim
   | true =>
     rw [f] at b
     have j:=Awg f
     subst j
     refine Zev.of (v:= .lit true) (s:=Instr.extract (a.eval x) 0) rfl (fun w hw=>?_) b
     rw [d.ev g]
     rfl
  ·rename_i g
   cases f:Nat.beq i 0 with
   | false=>rw [f] at b;exact b.elim
   | true =>
     rw [f] at b
     have j:=Awg f
     subst j
     refine Zev.of (v:= .lit false) (s:=Instr.extract (a.eval x) 0) rfl (fun w hw=>?_) b
     rw [d.ev g]
     rfl
  ·rename_i vs g
   split at b
   ·rename_i v l
    refine Zev.of (v:= .val v) (s:=Instr.extract (a.eval x) i) rfl (fun w hw=>?_) b
    rw [d.ev g]
    have k:vs[i]?=some v:=by simpa using l
    simp only [EV.v,Instr.extract,k]
    rfl
   ·exact b.elim
  ·exact b.elim
theorem Xm {P:Program} {w w':World} {ρ:Operand->Value} {b:Builtin} {args:Array Operand} {ts:Array TypeId} {v:Value} {s:Sem Value}
    (a:∀ type consts,builtin b ts type consts (args.map ρ)=(do pure (.value (<- s)))) (c:s.run P w = .ok v w') :
    (execOp ρ ⟨dst,.call ⟨.builtin b,args,ts⟩,type,pos,after,guard⟩).run P w = .ok (.value v) w':=by
  simp only [execOp,resolve,Awk,Awp,Awl,invoke,a,c]
theorem Zdj (b:Agr c.n e a) {args:Array Operand} {es:List EV} (h:evs e args.toList=some es):args.map a.eval=(es.map EV.v).toArray:=by
  apply Axe
  simp [b.evs h]
theorem YT (g:Agr c.n e a) {b:Builtin} {args:Array Operand} {ts:Array TypeId} (o:(b = .len/\Zjp c.P ts=false)\/b = .cap\/b = .min\/b = .max) (f:Zob c (.call ⟨.builtin b,args,ts⟩) e h K) :
    Zev c ⟨dst,.call ⟨.builtin b,args,ts⟩,type,pos,after,guard⟩ a h K:=by
  rcases o with ⟨rfl,j⟩ | rfl | rfl | rfl
  ·simp only [Zob] at f
   split at f
   ·rename_i t v ht i
    have d:=Zdj g i
    have key:∀ n:Int,(∀ w,(Builtin.len_ ts type #[v.v]).run c.P w = .ok (.int .i64 n) w)->K (.val (.int .i64 n)) h->Zev c ⟨dst,.call ⟨.builtin .len,args,ts⟩,type,pos,after,guard⟩ a h K:=by
      intro n q f
      refine ⟨.val (.int .i64 n),fun w _=>?_,f⟩
      refine Xm (s:=Builtin.len_ ts type #[v.v]) (fun ty cs=>?_) (q w)
      rw [d];rfl
    split at f
    ·rename_i s hu
     refine key _ (fun w=>?_) f
     unfold Builtin.len_
     simp only [ht,EV.v,Axh,Axi,Awk,Zg c.P w t hu,Awl]
     rfl
    ·rename_i el p n m hu
     refine key _ (fun w=>?_) f
     unfold Builtin.len_
     simp only [ht,EV.v,Axh,Axi,Awk,Zg c.P w t hu,Awl]
     rfl
    ·rename_i n el hu
     refine key _ (fun w=>?_) f
     unfold Builtin.len_
     simp only [ht,Axh,Axi,Awk,Zg c.P w t hu,Awl]
     rfl
    ·rename_i hu
     simp [Zjp,ht,hu] at j
    ·exact f.elim
   ·exact f.elim
  ·simp only [Zob] at f
   split at f
   ·rename_i t v ht i
    have d:=Zdj g i
    split at f
    ·rename_i el p n m hu
     refine ⟨.val (.int .i64 m),fun w _=>?_,f⟩
     refine Xm (s:=Builtin.cap_ ts type #[.slice p n m]) (fun ty cs=>?_) ?_
     ·rw [d];rfl
     ·unfold Builtin.cap_
      simp only [ht,Axh,Axi,Awk,Zg c.P w t hu,Awl]
      rfl
    ·exact f.elim
   ·exact f.elim
  ·simp only [Zob] at f
   split at f
   ·rename_i k x l y i
    have d:=Zdj g i
    refine ⟨.val (.int k (ZNA x y)),fun w _=>?_,f⟩
    refine Xm (s:=Builtin.min_ ts type #[.int k x,.int l y]) (fun ty cs=>?_) ?_
    ·rw [d];rfl
    ·unfold Builtin.min_
     simp [Builtin.min2,ZNA,EV.v]
   ·exact f.elim
  ·simp only [Zob] at f
   split at f
   ·rename_i k x l y i
    have d:=Zdj g i
    refine ⟨.val (.int k (ZCm x y)),fun w _=>?_,f⟩
    refine Xm (s:=Builtin.max_ ts type #[.int k x,.int l y]) (fun ty cs=>?_) ?_
    ·rw [d];rfl
    ·unfold Builtin.max_
     simp [Builtin.max2,ZCm,EV.v]
   ·exact f.elim
theorem Zxw (g:Agr c.n e a) {args:Array Operand} {ts:Array TypeId} (d:Zob c (.call ⟨.builtin .len,args,ts⟩) e h K) :
    ZtT c ⟨dst,.call ⟨.builtin .len,args,ts⟩,type,pos,after,guard⟩ a h K:=by
  cases hm:Zjp c.P ts with
  | false=>exact (YT g (.inl ⟨rfl,hm⟩) d).q
  | true =>
    simp only [Zob] at d
    split at d
    ·rename_i t v ht i
     have f:=Zdj g i
     split at d
     ·rename_i s hu
      simp [Zjp,ht,hu] at hm
     ·rename_i el p n m hu
      simp [Zjp,ht,hu] at hm
     ·rename_i n el hu
      simp [Zjp,ht,hu] at hm
     ·rename_i l et m hu
      have key:∀ n:Int,(∀ w:World,w.heap=h->(Builtin.len_ ts type #[.map m]).run c.P w = .ok (.int .i64 n) w)->K (.val (.int .i64 n)) h->ZtT c ⟨dst,.call ⟨.builtin .len,args,ts⟩,type,pos,after,guard⟩ a h K:=by
        intro n j d
        refine ⟨.val (.int .i64 n),fun w hw=>?_,d⟩
        refine Xm (s:=Builtin.len_ ts type #[.map m]) (fun ty cs=>?_) (j w hw)
        rw [f];rfl
      cases m with
      | none =>
        refine key 0 (fun w _=>?_) (d.1 rfl)
        unfold Builtin.len_
        simp only [ht,Axh,Axi,Awk,Zg c.P w t hu,Awl]
        rfl
      | some b =>
        obtain ⟨es,o,k,d⟩:=d.2 b rfl
        refine key _ (fun w hw=>?_) d
        subst hw
        unfold Builtin.len_
        simp only [ht,Axh,Axi,Awk,Zg c.P w t hu,Awl,MapKept.run_getObj_map k]
        rfl
     ·exact d.elim
    ·exact d.elim
theorem ZjR {d:TypeDesc} {k:Value} (h:ZyX d k=true):MapKept.IsKey d k:=by
  unfold ZyX at h
  split at h
  ·split at h
   ·rename_i a;subst a;rfl
   ·cases h
  ·trivial
  ·trivial
  ·cases h
theorem ZvL {P:Program} {t e et:TypeId} {d:TypeDesc} {m:Option Nat} {k z:Value} {inf:TypeInfo} {h:Zc} {K:Option Value->Prop} (hu:P.underlying t=some (.map e et)) (hd:P.underlying e=some d) (a:ZyX d k=true)
    (c:P.info? et=some inf) (g:inf.zero=some z) (f:ZuD d h m k K) :
    ∃ r:Option Value,(∀ (ok:Bool) (w:World),w.heap=h->(Instr.lookup t (.map m) k ok).run P w = .ok (if ok then .tuple #[r.getD z,.bool r.isSome] else r.getD z) w)/\K r:=by
  have l:∀ w:World,(zeroValue et).run P w = .ok z w:=fun w=>ZaC P w et c g
  cases m with
  | none =>
    refine ⟨none,fun ok w hw=>?_,f.1 rfl⟩
    unfold Instr.lookup
    have i:(Instr.findKey e k []).run P w = .ok none w:=MapKept.run_findKey hd rfl
    simp only [Awk,Zg P w t hu,Awl,Awp,MapKept.run_checkKey hd (ZjR a),i,l]
    rfl
  | some b =>
    obtain ⟨es,o,r,n,j,f⟩:=f.2 b rfl
    refine ⟨r.map (·.2),fun ok w hw=>?_,f⟩
    subst hw
    unfold Instr.lookup
    have i:(Instr.findKey e k es.toList).run P w = .ok r w:=MapKept.run_findKey hd j
    simp only [Awk,Zg P w t hu,Awl,MapKept.run_getObj_map n,Awp,MapKept.run_checkKey hd (ZjR a),i]
    cases r with
    | none=>simp only [Awk,l,Awl];rfl
    | some x=>rfl
theorem ZvK {P:Program} {t f et:TypeId} {d:TypeDesc} {m:Option Nat} {k v:Value} {w:World} {K:Zc->Prop} (hu:P.underlying t=some (.map f et)) (hd:P.underlying f=some d) (a:ZyX d k=true)
    (g:Xu d w.heap m k v K):∃ w',(Instr.mapUpdate t (.map m) k v).run P w = .ok () w'/\Same w w'/\K w'.heap:=by
  obtain ⟨b,es,o,r,rfl,h,i,c,g⟩:=g
  refine ⟨{ w with heap:=w.heap.setIfInBounds b (ZHu es o k v r)},?_,⟨rfl,rfl,rfl⟩,g⟩
  unfold Instr.mapUpdate
  have p:(Instr.findKey f k es.toList).run P w = .ok r w:=MapKept.run_findKey hd c
  simp only [Awk,Zg P w t hu,Awl,MapKept.run_getObj_map h,MapKept.run_checkKey hd (ZjR a),p]
  rcases MapKept.findNow_spec (ZjR a) es.toList 0 i with ⟨e,_⟩ | ⟨j,q,e,s,u⟩
  ·rw [c] at e
   cases e
   exact MapKept.run_setObj_map _ h
  ·rw [c] at e
   cases e
   have l:(Instr.keyThatStays (((es[0+j]?).map (·.key)).getD k) k).run P w = .ok k w:=by
     have n:es[0+j]?=some q:=by rw [Awb];simpa using s
     rw [n]
     simp only [Aqx,Axo,u]
     unfold Instr.keyThatStays
     have x:Instr.sameBits 10000 k k=true:=by
       unfold ZyX at a
       split at a<;>first
         | (simp [Instr.sameBits];done)
         | (exact (MapKept.bytes_beq _ _).2 rfl)
         | cases a
     rw [if_pos x]
     rfl
   simp only [Awk,l,Awl]
   exact MapKept.run_setObj_map _ h
theorem ZmY {d:TypeDesc} {v w:Value} (a:MapKept.IsKey d v) (hw:MapKept.IsKey d w):Zh1 (some d) v w=some (Zjo v w):=by
  cases d<;>cases v<;>cases w<;>first
    | exact a.elim
    | exact hw.elim
    | rfl
    | skip
  rename_i k b g c h
  have e:b=k:=a
  have f:c=k:=hw
  subst e
  subst f
  simp [Zh1,Zjo]
theorem ZqB {P:Program} {t:TypeId} (h:Zn7 (P.underlying t)=true):P.underlying t=some ((P.underlying t).getD .bool):=by
  cases hu:P.underlying t with
  | none=>rw [hu] at h;cases h
  | some d=>rfl
theorem Zkz {P:Program}:∀ {fs:List Field} {i:Nat} {xs ys:List Value},ZiM P fs i=true->ZaO (ZiN P fs) (xs.drop i)->ZaO (ZiN P fs) (ys.drop i) ->
    Zgk P fs xs ys=some (Zf7 (xs.drop i) (ys.drop i))
  | [],i,xs,ys,_,g,h=>by
    cases c:xs.drop i with
    | cons a l=>rw [c] at g;exact g.elim
    | nil=>cases d:ys.drop i with
      | cons a l=>rw [d] at h;exact h.elim
      | nil=>rfl
  | f::fs,i,xs,ys,e,g,h=>by
    simp only [ZiM] at e
    cases o:(f.name == "_") with
    | true=>rw [o] at e;cases e
    | false =>
      rw [o] at e
      simp only [cond_false] at e
      cases j:(Nat.beq f.offset i&&Zn7 (P.underlying f.type)) with
      | false=>rw [j] at e;cases e
      | true =>
        rw [j] at e
        simp only [cond_true] at e
        simp only [Awn] at j
        have ho:=Awg j.1
        cases c:xs.drop i with
        | nil=>rw [c] at g;exact g.elim
        | cons a l =>
          cases d:ys.drop i with
          | nil=>rw [d] at h;exact h.elim
          | cons b m =>
            rw [c] at g
            rw [d] at h
            have p:xs[f.offset]?=some a:=by rw [ho];have:=congrArg (fun l=>l[0]?) c;simpa using this
            have q:ys[f.offset]?=some b:=by rw [ho];have:=congrArg (fun l=>l[0]?) d;simpa using this
            have k:xs.drop (i+1)=l:=by rw [<- Axp,c];rfl
            have n:ys.drop (i+1)=m:=by rw [<- Axp,d];rfl
            have r:=Zkz (P:=P) (fs:=fs) (i:=i+1) (xs:=xs) (ys:=ys) e (by rw [k];exact g.2) (by rw [n];exact h.2)
            have s:Zh1 (P.underlying f.type) a b=some (Zjo a b):=by
              rw [ZqB j.2]
              exact ZmY g.1 h.1
            simp only [Zgk,o,cond_false,p,q,s,r,k,n,Zf7]
theorem Zqu:∀ {a:List TypeDesc} {vs:List Value},ZyW a vs=true->ZaO a vs
  | [],[],_=>trivial
  | d::a,v::vs,h=>by
    simp only [ZyW] at h
    cases b:ZyX d v with
    | false=>rw [b] at h;cases h
    | true=>rw [b] at h;exact ⟨ZjR b,Zqu h⟩
  | [],_::_,h=>by cases h
  | _::_,[],h=>by cases h
theorem Zo8 {P:Program} {a:TypeId} {fs:Array Field} {cs:List Value} (h:ZBu P a fs cs=true):P.stoodInHeld a=false/\ZiM P fs.toList 0=true/\ZaO (ZiN P fs.toList) cs:=by
  unfold ZBu at h
  cases b:P.stoodInHeld a with
  | true=>rw [b] at h;cases h
  | false =>
    rw [b] at h
    cases c:ZiM P fs.toList 0 with
    | false=>rw [c] at h;cases h
    | true=>rw [c] at h;exact ⟨rfl,rfl,Zqu h⟩
theorem Zp7 {P:Program} {w:World} {k:TypeId} {fs:Array Field} {cs:List Value} (hd:P.underlying k=some (.struct fs)) (b:ZiM P fs.toList 0=true) (d:ZaO (ZiN P fs.toList) cs) (e:Bool) (n:Nat) :
    (Instr.checkKey e (n+1+1) k (.agg cs.toArray)).run P w = .ok () w:=by
  unfold Instr.checkKey
  simp only [Awk,Zg P w k hd,Awl]
  rw [<- Array.forIn_toList]
  have key:∀ (fs:List Field) (i:Nat),ZiM P fs i=true->ZaO (ZiN P fs) (cs.drop i) ->
      (forIn fs PUnit.unit fun f _=>(do
        if f.name≠ "_" then Instr.checkKey e (n+1) f.type (<- part f.type cs.toArray f.offset)
        pure (ForInStep.yield PUnit.unit):Sem (ForInStep PUnit))).run P w = .ok PUnit.unit w:=by
    intro fs
    induction fs with
    | nil=>intro i _ _;simp
    | cons f fs q =>
      intro i b d
      simp only [ZiM] at b
      cases j:(f.name == "_") with
      | true=>rw [j] at b;cases b
      | false =>
        rw [j] at b
        simp only [cond_false] at b
        have m:f.name≠ "_" :=by
          intro he
          rw [he] at j
          simp at j
        cases g:(Nat.beq f.offset i&&Zn7 (P.underlying f.type)) with
        | false=>rw [g] at b;cases b
        | true =>
          rw [g] at b
          simp only [cond_true] at b
          simp only [Awn] at g
          have ho:=Awg g.1
          cases c:cs.drop i with
          | nil=>rw [c] at d;exact d.elim
          | cons a l =>
            rw [c] at d
            have o:cs.toArray[f.offset]?=some a:=by rw [ho];have:=congrArg (fun l=>l[0]?) c;simpa using this
            have p:cs.drop (i+1)=l:=by rw [<- Axp,c];rfl
            have hu:=ZqB g.2
            have r:Zca (P.underlying f.type)=false:=by
              have:=g.2
              unfold Zn7 at this
              split at this<;>first
                | (rename_i h;rw [h];rfl)
                | cases this
            have hp:=Zc2 (P:=P) (w:=w) (t:=f.type) (xs:=cs.toArray) (off:=f.offset) r (by rw [hu];rfl) o
            have s:=MapKept.run_checkKey (P:=P) (w:=w) hu d.1 e n
            have:=q (i+1) b (by rw [p];exact d.2)
            simp only [ne_eq] at this
            simp only [Axm,ne_eq,m,not_false_eq_true,if_true,Awk,hp,Awl,s,Awp]
            exact this
  have:=key fs.toList 0 b (by simpa using d)
  simp only [this,Awl,Awp]
theorem Zrw {P:Program} {w:World} {a:TypeId} {fs:Array Field} {xs ys:List Value} (hd:P.underlying a=some (.struct fs)) (c:P.stoodInHeld a=false) (d:ZiM P fs.toList 0=true)
    (e:ZaO (ZiN P fs.toList) xs) (f:ZaO (ZiN P fs.toList) ys):(Op.equal a (.agg xs.toArray) (.agg ys.toArray)).run P w = .ok (Zf7 xs ys) w:=by
  have b:P.fieldsOf a=fs:=by unfold Program.fieldsOf;rw [hd]
  unfold Op.equal Op.maxDepth
  rw [show (10000:Nat)=9998+1+1 from rfl,run_equalIn_agg w _ a _ _ (by rw [b];exact hd) c,b]
  have:=Zkz (P:=P) (fs:=fs.toList) (i:=0) (xs:=xs) (ys:=ys) d (by simpa using e) (by simpa using f)
  exact Zh3 (xs:=xs.toArray) (ys:=ys.toArray) this
structure Zpq (P:Program) (kt:TypeId) (d:TypeDesc) (ds:List TypeDesc):Prop where
  und:P.underlying kt=some d
  chk:∀ {cs:List Value},ZaO ds cs->∀ (e:Bool) (n:Nat) (w:World),(Instr.checkKey e (n+1+1) kt (.agg cs.toArray)).run P w = .ok () w
  eq:∀ {xs ys:List Value},ZaO ds xs->ZaO ds ys->∀ w:World,(Op.equal kt (.agg xs.toArray) (.agg ys.toArray)).run P w = .ok (Zf7 xs ys) w
  now:∀ (x:Array Value) (y:Value),Instr.sameNow d (.agg x) y=none
theorem ZzQ {P:Program} {a:TypeId} {fs:Array Field} (hd:P.underlying a=some (.struct fs)) (c:P.stoodInHeld a=false) (b:ZiM P fs.toList 0=true):Zpq P a (.struct fs) (ZiN P fs.toList) :=
  ⟨hd,fun d e n w=>Zp7 hd b d e n,fun f g w=>Zrw hd c b f g,fun x y=>by unfold Instr.sameNow;rfl⟩
theorem ZzJ {b A:Bool} (h:(bif b then A else false)=true):b=true/\A=true:=by
  cases b with
  | true=>exact ⟨rfl,h⟩
  | false=>cases h
theorem Zo9 {P:Program} {n:Nat} {e:TypeId} {cs:List Value} (h:ZBv P n e cs=true):n=2/\Zn7 (P.underlying e)=true/\(∃ i,P.info? e=some i/\i.size=1)/\ZaO [(P.underlying e).getD .bool,(P.underlying e).getD .bool] cs:=by
  unfold ZBv at h
  obtain ⟨b,h⟩:=ZzJ h
  obtain ⟨c,h⟩:=ZzJ h
  cases a:P.info? e with
  | none=>rw [a] at h;cases h
  | some i =>
    rw [a] at h
    obtain ⟨d,h⟩:=ZzJ h
    exact ⟨Awg b,c,⟨i,rfl,Awg d⟩,Zqu h⟩
theorem Zwq {d:Option TypeDesc} (h:Zn7 d=true):Zca d=false:=by
  unfold Zn7 at h
  split at h<;>first
    | rfl
    | cases h
theorem ZxF {c:TypeDesc} {cs:List Value} (h:ZaO [c,c] cs):∃ a b,cs=[a,b]/\MapKept.IsKey c a/\MapKept.IsKey c b:=by
  match cs,h with
  | [a,b],⟨d,e,_⟩=>exact ⟨a,b,rfl,d,e⟩
  | [],h=>exact h.elim
  | [_],⟨_,h⟩=>exact h.elim
  | _::_::_::_,⟨_,_,h⟩=>exact h.elim
theorem ZzR {P:Program} {g el:TypeId} (hd:P.underlying g=some (.array 2 el)) (p:Zn7 (P.underlying el)=true) (h:∃ i,P.info? el=some i/\i.size=1) :
    Zpq P g (.array 2 el) [(P.underlying el).getD .bool,(P.underlying el).getD .bool]:=by
  obtain ⟨i,h,s⟩:=h
  have hu:=ZqB p
  have q:∀ w:World,(sizeOf el).run P w = .ok 1 w:=fun w=>by rw [XV P w el h,s]
  have f:∀ (xs:Array Value) (off:Nat) (x:Value) (w:World),xs[off]?=some x->(part el xs off).run P w = .ok x w:=fun xs off x w j=>Zc2 (Zwq p) (by rw [hu];rfl) j
  refine ⟨hd,fun {cs} t e n w=>?_,fun {xs ys} j u w=>?_,fun x y=>by unfold Instr.sameNow;rfl⟩
  ·obtain ⟨a,b,rfl,k,l⟩:=ZxF t
   have v:=MapKept.run_checkKey (P:=P) (w:=w) hu k e n
   have z:=MapKept.run_checkKey (P:=P) (w:=w) hu l e n
   have m:=f #[a,b] 0 a w rfl
   have pb:=f #[a,b] 1 b w rfl
   unfold Instr.checkKey
   simp only [Awk,Zg P w g hd,Awl,Std.Legacy.Range.forIn_eq_forIn_range',Std.Legacy.Range.size,Nat.sub_zero,Nat.add_sub_cancel,Nat.div_one,List.range',Axm,List.forIn_nil,q,Aqs,Nat.one_mul,Aqv,Awb,m,pb,v,z,Awp]
  ·obtain ⟨a,b,rfl,k,l⟩:=ZxF j
   obtain ⟨c,d,rfl,A,o⟩:=ZxF u
   have B:Zh1 (P.underlying el) a c=some (Zjo a c):=by rw [hu];exact ZmY k A
   have C:Zh1 (P.underlying el) b d=some (Zjo b d):=by rw [hu];exact ZmY l o
   have D:=(Zh0 (d:=9998) (w:=w) B).2.2
   have E:=(Zh0 (d:=9998) (w:=w) C).2.2
   have m:=f #[a,b] 0 a w rfl
   have pb:=f #[a,b] 1 b w rfl
   have F:=f #[c,d] 0 c w rfl
   have r:=f #[c,d] 1 d w rfl
   unfold Op.equal Op.maxDepth
   rw [show (10000:Nat)=9998+1+1 from rfl]
   unfold Op.equalIn
   simp only [Awk,Zg P w g hd,Awl,Std.Legacy.Range.forIn_eq_forIn_range',Std.Legacy.Range.size,Nat.sub_zero,Nat.add_sub_cancel,Nat.div_one,List.range',Axm,List.forIn_nil,q,Aqs,Nat.one_mul,Aqv,Awb,m,pb,F,r,D,Awp,Zf7]
   cases Zjo a c<;>simp only [Bool.not_true,Axl,Aqc,if_true,if_false,Awk,Awp,Awl,cond_true,cond_false,pb,r,E]
   cases Zjo b d<;>simp [Awp]
theorem Zjl {P:Program} {w:World} {c:TypeId} {d:TypeDesc} {b:List TypeDesc} {k:List Value} (f:Zpq P c d b)
    (g:ZaO b k):∀ (l:List MapEntry) (i:Nat),(∀ x,x∈l->ZlZ b x.key)->(Instr.findAsking c (.agg k.toArray) l i).run P w = .ok (Znk k l i) w
  | [],i,_=>rfl
  | e::l,i,h=>by
    obtain ⟨cs,a,j⟩:=h e (.head _)
    have he:=f.eq g j w
    have m:=Zjl (w:=w) f g l (i+1) (fun x n=>h x (.tail _ n))
    unfold Instr.findAsking
    have o:ZwC k e.key=Zf7 k cs:=by rw [a];simp [ZwC]
    rw [a]
    simp only [Awk,he,Awl,Znk,o]
    cases Zf7 k cs with
    | true=>simp
    | false=>simpa using m
theorem Zis {P:Program} {w:World} {a:TypeId} {d:TypeDesc} {b:List TypeDesc} {k:List Value} (c:Zpq P a d b)
    (f:ZaO b k) (l:List MapEntry) (h:∀ x,x∈l->ZlZ b x.key):(Instr.findKey a (.agg k.toArray) l).run P w = .ok (Znk k l 0) w:=by
  unfold Instr.findKey
  simp only [Awk,Zg P w a c.und,Awl]
  cases l with
  | nil=>rfl
  | cons e l =>
    have:Instr.findNow d (.agg k.toArray) (e::l) 0=none:=by
      unfold Instr.findNow
      rw [c.now]
    rw [this]
    exact Zjl c f (e::l) 0 h
theorem Zjk:∀ {e:List TypeDesc} {xs ys:List Value} (n:Nat),ZaO e xs->ZaO e ys->Zf7 xs ys=true->xs=ys
  | [],[],[],_,_,_,_=>rfl
  | d::e,x::xs,y::ys,n,a,b,h=>by
    simp only [Zf7] at h
    cases c:Zjo x y with
    | false=>rw [c] at h;cases h
    | true =>
      rw [c] at h
      have:x=y:=by
        have f:=a.1
        have g:=b.1
        cases d<;>cases x<;>cases y<;>first
          | exact f.elim
          | exact g.elim
          | skip
        all_goals simp only [Zjo,ZcC,MapKept.IsKey,beq_iff_eq] at c f g
        all_goals first
          | (subst c;rfl)
          | (subst f;subst g;subst c;rfl)
          | (congr 1;exact (MapKept.bytes_beq _ _).1 ((beq_toListBytes _ _).trans (by simpa using c)))
      rw [this,Zjk n a.2 b.2 h]
  | [],[],_::_,_,_,b,_=>b.elim
  | [],_::_,_,_,a,_,_=>a.elim
  | _::_,[],_,_,a,_,_=>a.elim
  | _::_,_::_,[],_,_,b,_=>b.elim
theorem Zpd {k:List Value}:∀ {l:List MapEntry} {i j:Nat} {v:Value},Znk k l i=some (j,v)->∃ m e,j=i+m/\l[m]?=some e/\e.val=v/\ZwC k e.key=true
  | e::l,i,j,v,h=>by
    simp only [Znk] at h
    cases a:ZwC k e.key with
    | true =>
      rw [a] at h
      simp only [cond_true,Awh,Prod.mk.injEq] at h
      exact ⟨0,e,h.1.symm,rfl,h.2,a⟩
    | false =>
      rw [a] at h
      obtain ⟨m,b,g,c,d,f⟩:=Zpd (l:=l) (i:=i+1) h
      exact ⟨m+1,b,by omega,c,d,f⟩
theorem Zp3:∀ {a:List TypeDesc} {xs:List Value},ZaO a xs->Instr.sameBits 10000 (.agg xs.toArray) (.agg xs.toArray)=true:=by
  intro a xs h
  have key:∀ (a:List TypeDesc) (xs:List Value),ZaO a xs->((xs.zip xs).all fun (x,y)=>Instr.sameBits 9999 x y)=true:=by
    intro a
    induction a with
    | nil=>intro xs h;cases xs with
      | nil=>rfl
      | cons _ _=>exact h.elim
    | cons d a b =>
      intro xs h
      cases xs with
      | nil=>exact h.elim
      | cons x xs =>
        simp only [List.zip_cons_cons,Awm,Awn]
        refine ⟨?_,b xs h.2⟩
        have c:=h.1
        cases d<;>cases x<;>first
          | exact c.elim
          | (simp [Instr.sameBits];done)
          | exact (MapKept.bytes_beq _ _).2 rfl
  show (xs.toArray.size ==xs.toArray.size&&(xs.toArray.toList.zip xs.toArray.toList).all fun (x,y)=>Instr.sameBits 9999 x y)=true
  rw [Awn]
  exact ⟨by simp,key a xs h⟩
theorem Zmv {P:Program} {t g et:TypeId} {d:TypeDesc} {j:List TypeDesc} {m:Option Nat} {k:List Value} {z:Value} {inf:TypeInfo} {h:Zc} {K:Option Value->Prop} (hu:P.underlying t=some (.map g et)) (l:Zpq P g d j) (n:ZaO j k)
    (c:P.info? et=some inf) (o:inf.zero=some z) (i:Ztm j h m k K) :
    ∃ r:Option Value,(∀ (ok:Bool) (w:World),w.heap=h->(Instr.lookup t (.map m) (.agg k.toArray) ok).run P w = .ok (if ok then .tuple #[r.getD z,.bool r.isSome] else r.getD z) w)/\K r:=by
  have q:∀ w:World,(zeroValue et).run P w = .ok z w:=fun w=>ZaC P w et c o
  have f:∀ (w:World) (e:Bool),(Instr.checkKey e 10000 g (.agg k.toArray)).run P w = .ok () w:=fun w e=>l.chk n e 9998 w
  cases m with
  | none =>
    refine ⟨none,fun ok w hw=>?_,i.1 rfl⟩
    unfold Instr.lookup
    have a:(Instr.findKey g (.agg k.toArray) []).run P w = .ok none w:=Zis l n [] (fun x s=>by cases s)
    simp only [Awk,Zg P w t hu,Awl,Awp,f,a,q]
    rfl
  | some b =>
    obtain ⟨es,v,u,p,i⟩:=i.2 b rfl
    refine ⟨_,fun ok w hw=>?_,i⟩
    subst hw
    unfold Instr.lookup
    have a:=Zis (P:=P) (w:=w) l n es.toList p
    simp only [Awk,Zg P w t hu,Awl,MapKept.run_getObj_map u,Awp,f,a]
    cases Znk k es.toList 0 with
    | none=>simp only [Awk,q,Awl];rfl
    | some x=>rfl
theorem Zmu {P:Program} {t f et:TypeId} {d:TypeDesc} {g:List TypeDesc} {m:Option Nat} {k:List Value} {v:Value} {w:World} {K:Zc->Prop} (hu:P.underlying t=some (.map f et)) (s:Zpq P f d g) (e:ZaO g k)
    (h:Ztk g w.heap m k v K):∃ w',(Instr.mapUpdate t (.map m) (.agg k.toArray) v).run P w = .ok () w'/\Same w w'/\K w'.heap:=by
  obtain ⟨b,es,B,rfl,i,a,h⟩:=h
  refine ⟨{ w with heap:=w.heap.setIfInBounds b (ZHu es B (.agg k.toArray) v (Znk k es.toList 0))},?_,⟨rfl,rfl,rfl⟩,h⟩
  unfold Instr.mapUpdate
  have l:(Instr.checkKey false 10000 f (.agg k.toArray)).run P w = .ok () w:=s.chk e false 9998 w
  have n:=Zis (P:=P) (w:=w) s e es.toList a
  simp only [Awk,Zg P w t hu,Awl,MapKept.run_getObj_map i,l,n]
  cases o:Znk k es.toList 0 with
  | none=>exact MapKept.run_setObj_map _ i
  | some C =>
    obtain ⟨j,u⟩:=C
    obtain ⟨m,x,y,z,D,A⟩:=Zpd o
    rw [Awb] at y
    subst y
    have p:es[j]?=some x:=by simpa using z
    obtain ⟨cs,c,q⟩:=a x (Axq z)
    have heq:k=cs:=Zjk 0 e q (by rw [c] at A;simpa [ZwC] using A)
    have r:(Instr.keyThatStays (((es[j]?).map (·.key)).getD (.agg k.toArray)) (.agg k.toArray)).run P w = .ok (.agg k.toArray) w:=by
      rw [p]
      simp only [Aqx,Axo,c,<- heq]
      unfold Instr.keyThatStays
      rw [if_pos (Zp3 e)]
      rfl
    simp only [Awk,r,Awl]
    exact MapKept.run_setObj_map _ i
theorem Zs2 {P:Program} {t f et:TypeId} {d:TypeDesc} {m:Option Nat} {k z:Value} {inf:TypeInfo} {h:Zc} {K:Option Value->Prop} (hu:P.underlying t=some (.map f et)) (hd:P.underlying f=some d)
    (b:P.info? et=some inf) (e:inf.zero=some z) (c:Ztl P f d h m k K) :
    ∃ r:Option Value,(∀ (ok:Bool) (w:World),w.heap=h->(Instr.lookup t (.map m) k ok).run P w = .ok (if ok then .tuple #[r.getD z,.bool r.isSome] else r.getD z) w)/\K r:=by
  unfold Ztl at c
  split at c
  ·obtain ⟨a,c⟩:=Zfd c
   obtain ⟨l,g,i⟩:=Zo8 a
   exact Zmv (k:=_) hu (ZzQ hd l g) i b e c
  ·obtain ⟨a,j⟩:=Zfd c
   obtain ⟨rfl,g,n,i⟩:=Zo9 a
   exact Zmv (k:=_) hu (ZzR hd g n) i b e j
  ·obtain ⟨a,c⟩:=Zfd c
   exact ZvL hu hd a b e c
theorem Zmt {P:Program} {t c et:TypeId} {d:TypeDesc} {m:Option Nat} {k v:Value} {w:World} {K:Zc->Prop} (hu:P.underlying t=some (.map c et)) (hd:P.underlying c=some d)
    (b:Zqp P c d w.heap m k v K):∃ w',(Instr.mapUpdate t (.map m) k v).run P w = .ok () w'/\Same w w'/\K w'.heap:=by
  unfold Zqp at b
  split at b
  ·obtain ⟨a,b⟩:=Zfd b
   obtain ⟨h,e,f⟩:=Zo8 a
   exact Zmu (k:=_) hu (ZzQ hd h e) f b
  ·obtain ⟨a,g⟩:=Zfd b
   obtain ⟨rfl,e,i,f⟩:=Zo9 a
   exact Zmu (k:=_) hu (ZzR hd e i) f g
  ·obtain ⟨a,b⟩:=Zfd b
   exact ZvK hu hd a b
theorem ZvM {P:Program} {t e et ty:TypeId} {d:TypeDesc} {m:Option Nat} {k:Value} {ts:Array TypeId} {w:World} {K:Zc->Prop} (ht:ts[0]?=some t) (hu:P.underlying t=some (.map e et)) (hd:P.underlying e=some d) (a:ZyX d k=true)
    (c:ZCn d w.heap m k K):∃ w',(Builtin.delete_ ts ty #[.map m,k]).run P w = .ok (.tuple #[]) w'/\Same w w'/\K w'.heap:=by
  cases m with
  | none =>
    refine ⟨w,?_,Same.refl w,c.1 rfl⟩
    unfold Builtin.delete_
    simp only [ht,Axh,Axi,Axj,Awk,Zg P w t hu,Awl,MapKept.run_checkKey hd (ZjR a)]
    rfl
  | some b =>
    obtain ⟨es,h,r,f,g,c⟩:=c.2 b rfl
    refine ⟨{ w with heap:=w.heap.setIfInBounds b (ZN4 es h r)},?_,⟨rfl,rfl,rfl⟩,c⟩
    unfold Builtin.delete_
    have i:(Instr.findKey e k es.toList).run P w = .ok r w:=MapKept.run_findKey hd g
    simp only [ht,Axh,Axi,Axj,Awk,Zg P w t hu,Awl,MapKept.run_getObj_map f,MapKept.run_checkKey hd (ZjR a),i]
    cases r with
    | none=>simp only [Awk,MapKept.run_setObj_map _ f,Awl];rfl
    | some x=>simp only [Awk,MapKept.run_setObj_map _ f,Awl];rfl
theorem ZvO {P:Program} {t d et ty:TypeId} {m:Option Nat} {ts:Array TypeId} {w:World} {K:Zc->Prop} (ht:ts[0]?=some t) (hu:P.underlying t=some (.map d et))
    (a:ZN6 w.heap m K):∃ w',(Builtin.clear_ ts ty #[.map m]).run P w = .ok (.tuple #[]) w'/\Same w w'/\K w'.heap:=by
  cases m with
  | none =>
    refine ⟨w,?_,Same.refl w,a.1 rfl⟩
    unfold Builtin.clear_
    simp only [ht,Axh,Axi,Awk,Zg P w t hu,Awl]
    rfl
  | some b =>
    obtain ⟨es,e,c,a⟩:=a.2 b rfl
    refine ⟨{ w with heap:=w.heap.setIfInBounds b (.map #[] e)},?_,⟨rfl,rfl,rfl⟩,a⟩
    unfold Builtin.clear_
    simp only [ht,Axh,Axi,Awk,Zg P w t hu,Awl,MapKept.run_getObj_map c,MapKept.run_setObj_map _ c]
    rfl
theorem ZvN {P:Program} {t el ty:TypeId} {q:Option Addr} {l m:Nat} {zs:List Value} {ts:Array TypeId} {w:World} {K:Zc->Prop} (ht:ts[0]?=some t) (hu:P.underlying t=some (.slice el)) (j:Zlz P el=some zs)
    (a:ZN5 ⟨q,l,m⟩ zs w.heap K):∃ w',(Builtin.clear_ ts ty #[.slice q l m]).run P w = .ok (.tuple #[]) w'/\Same w w'/\K w'.heap:=by
  rcases a with ⟨c,a⟩ | ⟨c,a⟩ | ⟨b,o,hp,g,h,a⟩
  ·dsimp only at c
   subst c
   refine ⟨w,?_,Same.refl w,a⟩
   unfold Builtin.clear_
   simp only [ht,Axh,Axi,Awk,Zg P w t hu,Awl]
   rfl
  ·dsimp only at c
   subst c
   refine ⟨w,?_,Same.refl w,a⟩
   unfold Builtin.clear_
   simp only [ht,Axh,Axi,Awk,Zg P w t hu,Awl]
   cases q<;>rfl
  ·dsimp only at hp g h a
   subst hp
   obtain ⟨i,z,k,d,rfl⟩:=ZdU j
   cases l with
   | zero =>
     refine ⟨w,?_,Same.refl w,?_⟩
     ·unfold Builtin.clear_
      simp only [ht,Axh,Axi,Awk,Zg P w t hu,Awl]
      rfl
     ·have e:Zbl z.cells.toList 0=[]:=rfl
      rw [e] at a
      exact a
   | succ l =>
     refine ⟨{ w with heap:=Zc.puts w.heap b o (Zbl z.cells.toList (l+1))},?_,⟨rfl,rfl,rfl⟩,a⟩
     unfold Builtin.clear_
     have f:=ZeU P b o (Zbl z.cells.toList (l+1)) 0 w (by simpa using g) h
     simp only [ht,Axh,Axi,Awk,Zg P w t hu,Awl,ZaC P w el k d,Zlo,f]
     simp
theorem ZkV {P:Program} {t:TypeId} {v:Value} {w:World} (h:ZhO (P.underlying t)=false):(Instr.makeInterface t v).run P w = .ok (.iface t v) w:=by
  unfold Instr.makeInterface
  cases hu:P.underlying t with
  | none=>rw [hu] at h;cases h
  | some d =>
    rw [hu] at h
    simp only [Awk,Zg P w t hu,Awl]
    cases d<;>first
      | rfl
      | cases h
theorem ZnU {P:Program} {t a:TypeId} {v:Value} {w:World} (h:ZhO (P.underlying t)=false):(Instr.typeAssert (.iface t v) a t false).run P w = .ok v w:=by
  unfold Instr.typeAssert
  cases hu:P.underlying t with
  | none=>rw [hu] at h;cases h
  | some d =>
    rw [hu] at h
    simp only [Awk,Zg P w t hu,Awl]
    cases d<;>first
      | (simp only [if_true];rfl)
      | cases h
theorem ZFo (hc:c.OK) (B:Agr c.n e a) {cl:Call} {next:Act->World->Prop} {Q:Exit->Act->World->Prop} (Y:∀ v w',Same w w'->c.pan v w'.heap->Q (.panic [{ v,recovered:=false }]) a w') (g:Zob c (.call cl) e w.heap K)
    (N:∀ v w',Same w w'->K v w'.heap->next (a.put dst v.v) w'):(⟨dst,.call cl,type,pos,after,guard⟩:Oper).wpIn (fen c.rnd) 0 c.P a w next Q:=by
  have S:=g
  unfold Zob at g
  split at g
  ·rename_i args ts ho
   cases ho
   exact (Zxw B S).val.wp N
  ·rename_i args ts ho
   cases ho
   exact (YT B (.inr (.inl rfl)) S).val.wp N
  ·rename_i args ts ho
   cases ho
   exact (YT B (.inr (.inr (.inl rfl))) S).val.wp N
  ·rename_i args ts ho
   cases ho
   exact (YT B (.inr (.inr (.inr rfl))) S).val.wp N
  ·
   rename_i args ts ho
   cases ho
   split at g
   ·rename_i t ht T
    split at g
    ·rename_i el hu
     have X:∀ u,ts[1]?=some u->∃ d,c.P.underlying u=some d/\∀ k,d≠ .int k:=by
       intro u h1
       simp only [h1] at T
       split at T
       ·cases T
       ·rename_i d aq hd
        exact ⟨d,hd,fun k g=>aq k g⟩
       ·cases T
     split at g
     ·rename_i size bytes zs p n m p' n' m' hs hz J
      have A:=Zdj B J
      obtain ⟨i,z,hi,Z,rfl⟩:=ZdU hz
      obtain ⟨i',O,rfl,rfl⟩:=ZfL hs
      rw [hi] at O
      cases O
      have L:∃ new,(∀ w':World,w'.heap=w.heap->(Builtin.firstCells i.size n' (.slice p' n' m')).run c.P w' = .ok new.toArray w')/\app el i.size i.bytes z.cells.toList ⟨p,n,m⟩ n' new w.heap fun s h'=>K (.val (.slice s.ptr s.len s.cap)) h':=by
        rcases g with ⟨hp,g⟩ | ⟨b,o,l,hp,hl,hh,g⟩
        ·refine ⟨[],fun w' _=>?_,g⟩
         simp only at hp
         rw [hp]
         cases p'<;>simp [Builtin.firstCells,loadCells,loadCellsFrom]
        ·refine ⟨l,fun w' hw=>?_,g⟩
         simp only at hp hl
         rw [hp]
         simp only [Builtin.firstCells]
         rw [<- hl]
         exact Zd8 c.P w' b o l (by rw [hw];exact hh)
      obtain ⟨new,L,g⟩:=L
      obtain ⟨s',w',U,I,g⟩:=ZoE (P:=c.P) (ts:=ts) (rt:=type) (s:=⟨p,n,m⟩) (x:= .slice p' n' m') ht X hu hi Z rfl L g
      refine Val.wp (K:=K) ⟨.val (.slice s'.ptr s'.len s'.cap),w',?_,I,g⟩ N
      refine Xm (s:=Builtin.append_ ts type #[.slice p n m,.slice p' n' m']) (fun ty cs=>?_) U
      rw [A];rfl
     ·rename_i size bytes zs p n m s hs hz J
      have A:=Zdj B J
      obtain ⟨i,z,hi,Z,rfl⟩:=ZdU hz
      obtain ⟨i',O,rfl,rfl⟩:=ZfL hs
      rw [hi] at O
      cases O
      have L:∀ w':World,w'.heap=w.heap->(Builtin.firstCells i.size s.size (.string s)).run c.P w' = .ok (Zbk s).toArray w':=by
        intro w' _
        simp only [Builtin.firstCells,Awp]
        congr 1
        apply Axe
        simp [Zbk]
      obtain ⟨s',w',U,I,g⟩:=ZoE (P:=c.P) (ts:=ts) (rt:=type) (s:=⟨p,n,m⟩) (x:= .string s) ht X hu hi Z rfl L g
      refine Val.wp (K:=K) ⟨.val (.slice s'.ptr s'.len s'.cap),w',?_,I,g⟩ N
      refine Xm (s:=Builtin.append_ ts type #[.slice p n m,.string s]) (fun ty cs=>?_) U
      rw [A];rfl
     ·exact g.elim
    ·exact g.elim
   ·exact g.elim
  ·
   rename_i x args ts ho
   cases ho
   split at g
   ·split at g
    ·rename_i v es hx J
     obtain ⟨f,cs,s,t,ab,hp,g⟩:=ZlX g
     have M:a.eval x=Value.func (.func f) #[] ⟨cs⟩:=(B.ev hx).trans ab
     have H:(args.map a.eval)++(⟨cs⟩:Array Value)=((ZBJ es cs).map EV.v).toArray:=by
       rw [Zdj B J]
       simp [ZBJ,Function.comp_def,EV.v]
     obtain ⟨G,ht⟩:=Ziw hp
     dsimp only at G ht
     obtain ⟨⟨fn,hf,D,E⟩,F⟩:=hc.calls _ G
     have C:(execOp a.eval ⟨dst,.call ⟨.value x,args,ts⟩,type,pos,after,guard⟩).run c.P w = .ok (.enter f ((args.map a.eval)++(⟨cs⟩:Array Value))) w:=by
       simp only [execOp,resolve,M,Deferred.ofValue,Awk,Awp,Awl,invoke,callFunc,run_program,hf,D,Aqc,if_false,E]
       simp
     refine Zpx C ?_
     rw [H,<- ZgM ht]
     refine (F t _ _ w g).mono ?_
     rintro ending w' (⟨r,rfl,j,g⟩ | ⟨v,rfl,j,g⟩)
     ·exact N _ w' j g
     ·exact Y v w' j g
    ·exact g.elim
   split at g
   ·rename_i f cs hx
    split at g
    ·rename_i es J
     have M:a.eval x=Value.func (.func f) #[] ⟨cs⟩:=B.ev hx
     have H:(args.map a.eval)++(⟨cs⟩:Array Value)=((ZBJ es cs).map EV.v).toArray:=by
       rw [Zdj B J]
       simp [ZBJ,Function.comp_def,EV.v]
     split at g
     ·rename_i s t hp
      obtain ⟨G,ht⟩:=Ziw hp
      dsimp only at G ht
      obtain ⟨⟨fn,hf,D,E⟩,F⟩:=hc.calls _ G
      have C:(execOp a.eval ⟨dst,.call ⟨.value x,args,ts⟩,type,pos,after,guard⟩).run c.P w = .ok (.enter f ((args.map a.eval)++(⟨cs⟩:Array Value))) w:=by
        simp only [execOp,resolve,M,Deferred.ofValue,Awk,Awp,Awl,invoke,callFunc,run_program,hf,D,Aqc,if_false,E]
        simp
      refine Zpx C ?_
      rw [H,<- ZgM ht]
      refine (F t _ _ w g).mono ?_
      rintro ending w' (⟨r,rfl,j,g⟩ | ⟨v,rfl,j,g⟩)
      ·exact N _ w' j g
      ·exact Y v w' j g
     ·cases ad:ZFD f c.ext with
      | false=>rw [ad] at g;exact g.elim
      | true =>
        rw [ad] at g
        simp only [cond_true] at g
        split at g
        ·rename_i y av
         obtain ⟨t,b,aw,cl,hy,hb,g⟩:=g
         obtain ⟨w',R,j,ax⟩:=hc.ext f (ZuS ad) t b aw cl w hb
         refine Val.wp (K:=K) ⟨.val (.iface t (.map (some w.heap.size))),w',?_,j,by rw [ax];exact g⟩ N
         have V:(args.map a.eval)++(⟨cs⟩:Array Value) = #[.iface t (.map (some b))]:=by rw [H,av];simp [hy]
         have aj:(#[]++args.map a.eval)++(⟨cs⟩:Array Value) = #[.iface t (.map (some b))]:=by rw [Array.empty_append];exact V
         simp only [execOp,resolve,M,Deferred.ofValue,Awk,Awp,Awl,invoke,aj]
         simpa [EV.v] using R
        ·exact g.elim
    ·exact g.elim
   ·rename_i l hx
    split at g
    ·rename_i es J
     have M:a.eval x=Value.func (.yield l) #[] #[]:=B.ev hx
     obtain ⟨fn,tmps,assign,body,R,W⟩:=hc.yld l _ _ w g
     refine ZAp (l:=l) (f:=fn) (tmps:=tmps) (assign:=assign) (body:=body) (k:=fun b w'=>Same w w'/\K (.val (.bool b)) w'.heap) ?_ W fun b w' h=>N _ w' h.1 h.2
     have A:args.map a.eval=(es.map EV.v).toArray:=Zdj B J
     simp only [execOp,resolve,M,Deferred.ofValue,Awk,Awp,Awl,invoke,A]
     simpa using R
    ·exact g.elim
   ·exact g.elim
  ·
   rename_i args ts ho
   cases ho
   split at g
   ·rename_i t m k ht J
    split at g
    ·rename_i kt et hu
     split at g
     ·rename_i d hd
      obtain ⟨ak,ay⟩:=Zfd g
      clear g
      have A:=Zdj B J
      obtain ⟨w',U,I,g⟩:=ZvM (P:=c.P) (ts:=ts) (ty:=type) ht hu hd ak ay
      refine Val.wp (K:=K) ⟨.val (.tuple #[]),w',?_,I,g⟩ N
      refine Xm (s:=Builtin.delete_ ts type #[.map m,k.v]) (fun ty cs=>?_) U
      rw [A];rfl
     ·exact g.elim
    ·exact g.elim
   ·exact g.elim
  ·
   rename_i x name args ts ho
   cases ho
   split at g
   ·rename_i v es hx J
    obtain ⟨t,f,p,y,G,ab,hp,g⟩:=Zsg g
    have hm:Zvo c.P name t f:=hc.dyn _ G
    obtain ⟨az,ht⟩:=Zkq hp
    obtain ⟨⟨fn,hf,D,E⟩,F⟩:=hc.calls _ az
    dsimp only at hf D E F
    have M:a.eval x = .iface t (p.a0.ev y).v:=(B.ev hx).trans ab
    have H:(#[(p.a0.ev y).v]:Array Value)++(args.map a.eval)=((XB.evs (p.a0::p.rest) (y,p.t)).map EV.v).toArray:=by
      rw [Zdj B J]
      simp only [XB.evs,Awo,ZgM ht]
      simp
    have C:(execOp a.eval ⟨dst,.call ⟨.invoke x name,args,ts⟩,type,pos,after,guard⟩).run c.P w = .ok (.enter f ((#[(p.a0.ev y).v]:Array Value)++(args.map a.eval))) w:=by
      have al:((#[a.eval x]:Array Value)++args.map a.eval).extract 1 ((#[a.eval x]:Array Value)++args.map a.eval).size=args.map a.eval:=by
        apply Axe
        simp only [Array.toList_extract,Array.toList_append,Array.size_append]
        simp
        rw [Awd (by simp)]
      have h0:((#[a.eval x]:Array Value)++args.map a.eval)[0]?=some (a.eval x):=by rw [<- Axr,Array.toList_append];rfl
      simp only [execOp,resolve,Awk,Awp,Awl,invoke,h0,al]
      rw [M]
      have aA:=hm (p.a0.ev y).v w
      simp only [callMethod,Awk,run_program,Awl]
      rw [aA]
      simp only [callFunc,Awk,run_program,Awl,hf,D,Aqc,if_false,E,Awp]
    refine Zpx C ?_
    rw [H]
    refine (F (y,p.t) _ _ w g).mono ?_
    rintro ending w' (⟨r,rfl,j,g⟩ | ⟨v,rfl,j,g⟩)
    ·exact N _ w' j g
    ·exact Y v w' j g
   ·exact g.elim
  ·
   rename_i args ts ho
   cases ho
   split at g
   ·rename_i t m ht J
    split at g
    ·rename_i kt et hu
     have A:=Zdj B J
     obtain ⟨w',U,I,g⟩:=ZvO (P:=c.P) (ts:=ts) (ty:=type) ht hu g
     refine Val.wp (K:=K) ⟨.val (.tuple #[]),w',?_,I,g⟩ N
     refine Xm (s:=Builtin.clear_ ts type #[.map m]) (fun ty cs=>?_) U
     rw [A];rfl
    ·exact g.elim
   ·rename_i t q l m ht J
    split at g
    ·rename_i el hu
     split at g
     ·rename_i zs hz
      have A:=Zdj B J
      obtain ⟨w',U,I,g⟩:=ZvN (P:=c.P) (ts:=ts) (ty:=type) ht hu hz g
      refine Val.wp (K:=K) ⟨.val (.tuple #[]),w',?_,I,g⟩ N
      refine Xm (s:=Builtin.clear_ ts type #[.slice q l m]) (fun ty cs=>?_) U
      rw [A];rfl
     ·exact g.elim
    ·exact g.elim
   ·exact g.elim
  ·exact g.elim
theorem Zvu {P:Program} {t:TypeId} {z:Value} (h:ZD8 P t=some z):∃ i,P.info? t=some i/\i.zero=some z:=by
  unfold ZD8 at h
  split at h
  ·rename_i i a
   exact ⟨i,a,h⟩
  ·cases h
theorem Zvy (f:Agr c.n e a) {t:TypeId} {x i:Operand} {ok:Bool} (b:opP c (.lookup t x i ok) e h K):ZtT c ⟨dst,.lookup t x i ok,type,pos,after,guard⟩ a h K:=by
  simp only [opP] at b
  split at b
  ·rename_i A et m k hu o p
   split at b
   ·rename_i d z hd q
    obtain ⟨inf,g,j⟩:=Zvu q
    obtain ⟨r,y,b⟩:=Zs2 (P:=c.P) hu hd g j b
    obtain ⟨u,l,b⟩:=ZkD b
    refine ZtT.of (v:=bif ok then .val (.tuple #[u.v,.bool r.isSome]) else u) (s:=Instr.lookup t (a.eval x) (a.eval i) ok) rfl (fun w hw=>?_) b
    rw [f.ev o,f.ev p]
    have:=y ok w hw
    rw [<- l] at this
    cases ok<;>exact this
   ·exact b.elim
  ·exact b.elim
theorem ZrP (f:Agr c.n e a) {t:TypeId} {m k x:Operand} {next:Act->World->Prop} {Q:Exit->Act->World->Prop} (b:opP c (.mapUpdate t m k x) e w.heap K)
    (i:∀ v w',Same w w'->K v w'.heap->next (a.put dst v.v) w'):(⟨dst,.mapUpdate t m k x,type,pos,after,guard⟩:Oper).wpIn (fen c.rnd) 0 c.P a w next Q:=by
  simp only [opP] at b
  split at b
  ·rename_i o et p q r hu hm g j
   split at b
   ·rename_i d hd
    obtain ⟨w',l,h,b⟩:=Zmt (P:=c.P) hu hd b
    refine Zpw (w':=w') ?_ (i (.val undef) _ h b)
    refine ZEu (s:=Instr.mapUpdate t (a.eval m) (a.eval k) (a.eval x)) ?_
    rw [f.ev hm,f.ev g,f.ev j]
    exact l
   ·exact b.elim
  ·exact b.elim
theorem Zy3 (f:Agr c.n e a) {t:TypeId} {m k x:Operand} {next:Act->World->Prop} {Q:Exit->Act->World->Prop} (b:opP c (.insert t m k x) e w.heap K)
    (i:∀ v w',Same w w'->K v w'.heap->next (a.put dst v.v) w'):(⟨dst,.insert t m k x,type,pos,after,guard⟩:Oper).wpIn (fen c.rnd) 0 c.P a w next Q:=by
  simp only [opP] at b
  split at b
  ·rename_i o et p q r hu hm g j
   split at b
   ·rename_i d hd
    obtain ⟨w',l,h,b⟩:=Zmt (P:=c.P) hu hd b
    refine Zpw (w':=w') ?_ (i (.val undef) _ h b)
    refine ZEu (s:=Instr.mapUpdate t (a.eval m) (a.eval k) (a.eval x)) ?_
    rw [f.ev hm,f.ev g,f.ev j]
    exact l
   ·exact b.elim
  ·exact b.elim
theorem ZkM (d:Agr c.n e a) {t:TypeId} {x:Operand} (b:opP c (.makeInterface t x) e h K):Zev c ⟨dst,.makeInterface t x,type,pos,after,guard⟩ a h K:=by
  simp only [opP] at b
  split at b
  ·rename_i v g
   cases f:ZhO (c.P.underlying t) with
   | true=>rw [f] at b;exact b.elim
   | false =>
     rw [f] at b
     refine Zev.of (v:= .val (.iface t v.v)) (s:=Instr.makeInterface t (a.eval x)) rfl (fun w _=>?_) b
     rw [d.ev g]
     exact ZkV f
  ·exact b.elim
theorem Zil (d:Agr c.n e a) {f:Fn} {first caps:Array Operand} (b:opP c (.makeFunc f first caps) e h K):Zev c ⟨dst,.makeFunc f first caps,type,pos,after,guard⟩ a h K:=by
  cases f with
  | func g =>
    simp only [opP] at b
    split at b
    ·rename_i es i j
     refine Zev.of (v:= .val (.func (.func g) ⟨[]⟩ ⟨es.map EV.v⟩)) (s:=Instr.makeFunc (.func g) (first.map a.eval) (caps.map a.eval)) rfl (fun w _=>?_) b
     have k:first = #[]:=by apply Axe;exact i
     rw [Zdj d j,k]
     simp [Instr.makeFunc,EV.v]
    ·exact b.elim
  | _=>simp [opP] at b
theorem Zms {P:Program} {t a:TypeId} {v:Value} {w:World} (h:ZhO (P.underlying t)=false):(Instr.typeAssert (.iface t v) a t true).run P w = .ok (.tuple #[v,.bool true]) w:=by
  unfold Instr.typeAssert
  cases hu:P.underlying t with
  | none=>rw [hu] at h;cases h
  | some d =>
    rw [hu] at h
    simp only [Awk,Zg P w t hu,Awl]
    cases d<;>first
      | (simp only [if_true];rfl)
      | cases h
theorem ZnP (d:Agr c.n e a) {t f:TypeId} {x:Operand} {ok:Bool} (b:opP c (.typeAssert x f t ok) e h K):Zev c ⟨dst,.typeAssert x f t ok,type,pos,after,guard⟩ a h K:=by
  simp only [opP] at b
  split at b
  ·rename_i v j
   cases g:ZhO (c.P.underlying t) with
   | true=>rw [g] at b;exact b.elim
   | false =>
     rw [g] at b
     cases ok with
     | false =>
       obtain ⟨y,l,b⟩:=b
       obtain ⟨u,i,b⟩:=ZnF b
       refine Zev.of (v:=u) (s:=Instr.typeAssert (a.eval x) f t false) rfl (fun w _=>?_) b
       rw [d.ev j,l,i]
       exact ZnU g
     | true =>
       simp only [cond_false,cond_true] at b
       split at b
       ·rename_i k u
        cases ht:Nat.beq k t with
        | false=>rw [ht] at b;exact b.elim
        | true =>
          rw [ht] at b
          have:=Awg ht
          subst this
          refine Zev.of (v:= .val (.tuple #[u,.bool true])) (s:=Instr.typeAssert (a.eval x) f k true) rfl (fun w _=>?_) b
          rw [d.ev j]
          exact Zms g
       ·exact b.elim
  ·exact b.elim
theorem Zxv (f:Agr c.n e a) {t:TypeId} {x:Operand} (d:opP c (.range t x) e w.heap K):Val c ⟨dst,.range t x,type,pos,after,guard⟩ a w K:=by
  simp only [opP] at d
  split at d
  ·rename_i j et m hu h
   cases m with
   | none =>
     refine Val.of (v:= .itr t w.heap.size) (w':=w.alloc (.mapIter none 0 #[] 0)) (s:=Instr.range t (a.eval x)) rfl ?_ ⟨rfl,rfl,rfl⟩ (d.1 rfl)
     rw [f.ev h]
     exact run_range_nilMap w t _ _ hu
   | some b =>
     obtain ⟨es,g,i,d⟩:=d.2 b rfl
     refine Val.of (v:= .itr t w.heap.size) (w':=w.alloc (.mapIter (some b) g #[] g)) (s:=Instr.range t (a.eval x)) rfl ?_ ⟨rfl,rfl,rfl⟩ d
     rw [f.ev h]
     exact run_range_map w t _ _ b es g hu i
  ·exact d.elim
theorem ZAt (k:Agr c.n e a) {x:Operand} {q:Bool} (f:opP c (.next x q) e w.heap K):Val c ⟨dst,.next x q,type,pos,after,guard⟩ a w K:=by
  cases q with
  | true=>exact f.elim
  | false =>
    simp only [opP] at f
    split at f
    ·rename_i t b u
     have g:a.eval x = .pointer (some ⟨b,0,none⟩):=k.ev u
     rcases f with ⟨s,seen,D,l,f⟩ | ⟨r,since,seen,c0,es,clock,y,l,hold,m,z,A⟩
     ·refine Val.of (v:= .over) (w':=w) (s:=Instr.next (a.eval x) false type) rfl ?_ (Same.refl w) f
      rw [g]
      simp [Instr.next,getObj,Sem.run,l,Result.andThen,EV.v]
     ·rcases run_next_at (P:=c.P) w type b r since c0 seen es clock y l hold m with ⟨B,d⟩ | ⟨j,o,p,i,d⟩
      ·refine Val.of (v:= .over) (w':=w) (s:=Instr.next (a.eval x) false type) rfl ?_ (Same.refl w) (z B)
       rw [g]
       exact d
      ·have C:p.heap=w.heap:=by rcases i with rfl | rfl<;>rfl
       have h:Same w p:=by rcases i with rfl | rfl<;>exact ⟨rfl,rfl,rfl⟩
       refine Val.of (v:= .more j.key j.val) (w':=ChangeMaps.setBlock p b (.mapIter (some r) since (seen.push j.born) clock)) (s:=Instr.next (a.eval x) false type) rfl ?_ ⟨h.1,h.2.1,h.2.2⟩ ?_
       ·rw [g]
        exact d
       ·have:=A j o
        rw [<- C] at this
        exact this
    ·exact f.elim
theorem Zxx (f:Agr c.n e a) {x:Operand} (d:opP c (.entry x) e h K):ZtT c ⟨dst,.entry x,type,pos,after,guard⟩ a h K:=by
  simp only [opP] at d
  split at d
  ·rename_i t b m
   have g:a.eval x = .pointer (some ⟨b,0,none⟩):=f.ev m
   split at d
   ·rename_i y et hu
    obtain ⟨o,since,seen,es,clock,p,q,r,i,j,d⟩:=d
    obtain ⟨u,k,d⟩:=ZkD d
    obtain ⟨v',l,d⟩:=ZkD d
    refine ZtT.of (v:= .val (.tuple #[u.v,v'.v])) (s:=Instr.entry (a.eval x)) rfl (fun w hw=>?_) d
    subst hw
    rw [g,k,l]
    exact run_entry_at (P:=c.P) w b o since seen es clock p q r i j
   ·exact d.elim
  ·exact d.elim
theorem ZAJ (f:Agr c.n e a) {t:TypeId} {x y:Operand} {next:Act->World->Prop} {Q:Exit->Act->World->Prop} (d:opP c (.store t x y) e w.heap K)
    (g:∀ v w',Same w w'->K v w'.heap->next (a.put dst v.v) w'):(⟨dst,.store t x y,type,pos,after,guard⟩:Oper).wpIn (fen c.rnd) 0 c.P a w next Q:=by
  simp only [opP] at d
  split at d
  ·rename_i u v hu h
   obtain ⟨b,o,hp,d⟩:=Zjf d
   obtain ⟨h',i,d⟩:=ZAL d
   refine Zpw (w':={ w with heap:=h' }) ?_ (g (.val undef) _ ⟨rfl,rfl,rfl⟩ d)
   refine ZEu (s:=Instr.storeAt t (a.eval x) (a.eval y)) ?_
   rw [f.ev hu,f.ev h,hp]
   exact Zs1 i
  ·exact d.elim
theorem Zus (j:c.OK) (b:Agr c.n e a) {o:Oper} {next:Act->World->Prop} {Q:Exit->Act->World->Prop} (g:∀ v w',Same w w'->c.pan v w'.heap->Q (.panic [{ v,recovered:=false }]) a w') (d:opP c o.op e w.heap K)
    (f:∀ v w',Same w w'->K v w'.heap->next (a.put o.dst v.v) w'):o.wpIn (fen c.rnd) 0 c.P a w next Q:=by
  obtain ⟨dst,op,type,pos,after,guard⟩:=o
  cases op
  case panic x =>
    have d:(match e.ev x with | some (.val (.iface t v))=>c.pan (.iface t v) w.heap | _=>False):=d
    split at d
    ·rename_i t v k
     refine ZAq (fun _ h=>by cases h) (v:= .iface t v) ?_ (g _ w (Same.refl w) d)
     have i:a.eval x = .iface t v:=b.ev k
     simp only [execOp,i,Instr.panic,Awk]
     rfl
    ·exact d.elim
  case move=>exact (ZpH b d).val.wp f
  case assign=>exact (ZkN b d).val.wp f
  case pick=>exact (ZpG b d).val.wp f
  case alloc=>exact (Zxy d).wp f
  case box=>exact (ZEf b d).wp f
  case build=>exact (Zmg b d).val.wp f
  case buildSlice=>exact (ZnQ b d).wp f
  case load=>exact (ZpJ b d).val.wp f
  case store=>exact ZAJ b d f
  case nilCheck=>exact (Zik b d).val.wp f
  case binOp=>exact (Zmh b d).val.wp f
  case unOp=>exact (ZpF b d).val.wp f
  case convert=>exact (ZsS b d).wp f
  case makeSlice=>exact (ZpI b d).wp f
  case slice=>exact (Zmd b d).val.wp f
  case fieldAddr=>exact (ZhB b d).val.wp f
  case field=>exact (Zmf b d).val.wp f
  case indexAddr=>exact (ZhA b d).val.wp f
  case index=>exact (Zme b d).val.wp f
  case extract=>exact (Zjw b d).val.wp f
  case call=>exact ZFo j b g d f
  case makeMap t r =>
    cases r with
    | some x=>exact d.elim
    | none=>exact (Val.of (v:= .val (.map (some w.heap.size))) (w':={ w with heap:=w.heap.push (.map #[] 0)}) (s:=Instr.makeMap t none) rfl rfl ⟨rfl,rfl,rfl⟩ d).wp f
  case lookup=>exact (Zvy b d).val.wp f
  case mapUpdate=>exact ZrP b d f
  case insert=>exact Zy3 b d f
  case range=>exact (Zxv b d).wp f
  case next=>exact (ZAt b d).wp f
  case entry=>exact (Zxx b d).val.wp f
  case makeInterface=>exact (ZkM b d).val.wp f
  case makeFunc=>exact (Zil b d).val.wp f
  case typeAssert=>exact (ZnP b d).val.wp f
  all_goals exact d.elim
theorem ZGG (h:c.OK) (d:Agr c.n e a) {o:Oper} {next:Act->World->Prop} {Q:Exit->Act->World->Prop} (f:∀ v w',Same w w'->c.pan v w'.heap->Q (.panic [{ v,recovered:=false }]) a w') (b:opQ c o e w.heap K)
    (g:∀ v w',Same w w'->K v w'.heap->next (a.put o.dst v.v) w'):o.wpIn (fen c.rnd) 0 c.P a w next Q:=by
  obtain ⟨dst,op,type,pos,after,guard⟩:=o
  cases op
  case assign x =>
    have b:(bif Zy0 (c.P.underlying type) then (match e.ev x with
      | some v=>K v w.heap
      | none=>False) else opP c (.assign x) e w.heap K):=b
    cases i:Zy0 (c.P.underlying type) with
    | false =>
      rw [i] at b
      exact Zus h d (o:=⟨dst,.assign x,type,pos,after,guard⟩) f b g
    | true =>
      rw [i] at b
      simp only [cond_true] at b
      split at b
      ·rename_i v j
       have hp:Zev c ⟨dst,.assign x,type,pos,after,guard⟩ a w.heap K:=⟨v,fun w hw=>by simp [execOp,d.ev j],b⟩
       exact hp.val.wp g
      ·exact b.elim
  all_goals exact Zus h d (o:=⟨dst,_,type,pos,after,guard⟩) f b g
end
abbrev ZkI:=List (Nat × (World->Prop))
def ZkI.all (L:ZkI) (w:World):Prop:=∀ p,p∈L->p.2 w
def ZkI.waits (ops:Array Oper) (j i:Nat):Prop:=∃ o,ops[j]?=some o/\∃ e∈o.after,Region.binds .any e=true/\e.on=i
def Zf2 (ops:Array Oper):Prop:=∀ (j:Nat) (o:Oper),ops[j]?=some o->∀ c,o.op≠ .defer c
theorem Zv7 {ops:Array Oper} (h:Zku ops.toList=true):Zf2 ops:=by
  have key:∀ (l:List Oper),Zku l=true->∀ (j:Nat) (o:Oper),l[j]?=some o->∀ c,o.op≠ .defer c:=by
    intro l
    induction l with
    | nil=>intro _ j o ho;simp at ho
    | cons x xs b =>
      intro h j o ho c a
      simp only [Zku] at h
      cases hd:Zy1 x.op with
      | true=>rw [hd] at h;cases h
      | false =>
        rw [hd] at h
        cases j with
        | zero=>simp at ho;subst ho;rw [a] at hd;cases hd
        | succ j=>exact b h j o (by simpa using ho) c a
  intro j o ho
  exact key _ h j o (by simpa using ho)
def wpK (rn:Option Nat) (P:Program) (ops:Array Oper) (Q:Exit->Act->World->Prop) (nx:ZkI->Nat->ZkI):ZkI->Nat->Array Bool->Act->World->Prop
  | _,0,listed,a,w=>Region.ready .any ops listed=[]/\Q .normal a w
  | L,fuel+1,listed,a,w =>
    (Region.ready .any ops listed=[]->Q .normal a w) /\
    ∀ i∈Region.ready .any ops listed,wpOpIn (fen rn) 0 P ops Q i (fun b w'=>(nx L i).all w'/\wpK rn P ops Q nx (nx L i) fuel (listed.setIfInBounds i true) b w') a w
theorem Zgv {rn:Option Nat} {P:Program} {ops:Array Oper} {Q:Exit->Act->World->Prop} {S:World->Prop} {i:Nat} {o:Oper} {v:Value} {a:Act} (b:Zf2 ops) (c:ops[i]?=some o) (d:YieldsIf P ops S o v a)
    {K:Act->World->Prop} {w:World} (e:S w) (h:K (a.put o.dst v) w):wpOpIn (fen rn) 0 P ops Q i K a w:=by
  unfold Go.wpOpIn
  simp only [c]
  rcases d with ⟨hw,f⟩ | ⟨hw,rfl⟩
  ·simp only [hw,if_true]
   exact ZBY (f w e) h
  ·simp only [hw,Aqc,if_false];exact ⟨fun _ _=>trivial,h⟩
theorem ZsN {rn:Option Nat} {P:Program} {ops:Array Oper} {Q:Exit->Act->World->Prop} {S:World->Prop} (q:Zf2 ops) {j:Nat} {g i:Oper} {v:Value} (A:ops[j]?=some i) (s:g.apart ops i=true)
    (t:∀ cs b,g.op≠ .select cs b) (y:∀ cs b,i.op≠ .select cs b)
    (z:∀ c a w,Q (.panic c) (a.put g.dst v) w->Q (.panic c) a w) {K:Act->World->Prop} {a:Act} {w:World}
    (k:YieldsIf P ops S g v a) (h:wpOpIn (fen rn) 0 P ops Q j K (a.put g.dst v) w) :
    wpOpIn (fen rn) 0 P ops Q j (fun B w'=>YieldsIf P ops S g v B/\K (B.put g.dst v) w') a w:=by
  obtain ⟨C,n,D⟩:=Oper.apart_spec s
  have keep:∀ (a:Act),YieldsIf P ops S g v a->∀ u,YieldsIf P ops S g v (a.put i.dst u):=fun a k u =>
    k.of_same (execOp_put g t a i.dst u D) (wanted_put g a i.dst u D)
  have o:∀ d,YieldsIf P ops S g v { a with defers:=d::a.defers }:=fun d=>k.of_same rfl rfl
  have m:=q j i A
  unfold wpOpIn at *
  simp only [A] at *
  rw [wanted_put i a g.dst v C] at h
  split
  ·rename_i hw
   simp only [hw,if_true] at h
   unfold Oper.wpIn at *
   refine ⟨fun _ _=>trivial,?_⟩
   have h:=h.2
   rw [Oper.semAt_eq _ _ _ m,execOp_put i y a g.dst v C] at h
   rw [Oper.semAt_eq _ _ _ m]
   generalize (execOp a.eval i).run P w=r at *
   cases r with
   | ok x w' =>
     cases x<;>simp only [Oper.uponIn] at h ⊢
     case value u=>exact ⟨keep a k u,by rw [<- Act.put_comm a v u n];exact h⟩
     case skip=>exact ⟨keep a k _,by rw [<- Act.put_comm a v undef n];exact h⟩
     case defer d =>
       refine ⟨keep _ (o d) _,?_⟩
       rw [<- Act.put_comm _ v undef n,<- Act.put_defers]
       exact h
     case enter f args =>
       refine ⟨h.1,CallsIn.mono h.2 fun e p he=>?_⟩
       cases e with
       | returned u=>exact ⟨keep a k u,by rw [<- Act.put_comm a v u n];exact he⟩
       | panicked c=>exact z _ _ _ he
       | outgrown=>exact he
     case row row args=>exact ⟨h.1,RowsIn.mono h.2 fun u p he=>⟨keep a k u,by rw [<- Act.put_comm a v u n];exact he⟩⟩
     case round l f tmps assign body =>
       refine ⟨h.1,RoundIn.mono h.2 fun e p he=>?_⟩
       cases e with
       | returned u=>exact ⟨keep a k u,by rw [<- Act.put_comm a v u n];exact he⟩
       | panicked c=>exact z _ _ _ he
       | outgrown=>exact he
   | halt x w' =>
     cases x<;>simp only [Oper.uponIn] at h ⊢
     case panic u=>exact z _ _ _ h
  ·rename_i hw
   simp only [hw] at h
   exact ⟨fun _ _=>trivial,keep a k _,by rw [<- Act.put_comm a v undef n];exact h.2⟩
section
variable {rn:Option Nat} {P:Program} {ops:Array Oper} {Q:Exit->Act->World->Prop} {nx:ZkI->Nat->ZkI}
theorem Zxm:∀ (fuel:Nat) (L:ZkI) (listed:Array Bool) (a:Act) (w:World),wpK rn P ops Q nx L fuel listed a w->wpAnyIn (fen rn) 0 P .any ops Q fuel listed a w
  | 0,_,_,_,_,h=>h
  | fuel+1,_,_,_,_,h=>⟨h.1,fun i b=>wpOpIn_mono (fun c w' h'=>Zxm fuel _ _ c w' h'.2) (h.2 i b)⟩
structure Next (ops:Array Oper) (nx:ZkI->Nat->ZkI):Prop where
  mem:∀ L j p,p∈nx L j->p∈L
  keep:∀ L j p,p∈L->¬ ZkI.waits ops j p.1->p∈nx L j
  same:∀ L L' j p,p∈nx L' j->p∈L->p∈nx L j
theorem Zhx (d:Next ops nx):∀ (fuel:Nat) (L b:ZkI) (listed:Array Bool) (a:Act) (w:World),(∀ p,p∈b->p∈L\/∀ w,p.2 w) ->
    wpK rn P ops Q nx L fuel listed a w->wpK rn P ops Q nx b fuel listed a w
  | 0,_,_,_,_,_,_,h=>h
  | fuel+1,L,b,_,_,_,e,h=>⟨h.1,fun i f=>wpOpIn_mono (fun g w' h'=>by
      have c:∀ p,p∈nx b i->p∈nx L i\/∀ w,p.2 w:=fun p hp=>(e p (d.mem _ _ _ hp)).imp (d.same L b i p hp) id
      exact ⟨fun p hp=>(c p hp).elim (h'.1 p) (fun h=>h w'),Zhx d fuel _ _ _ _ _ c h'.2⟩) (h.2 i f)⟩
theorem Zxl (u:Zf2 ops) (l:Next ops nx) {i:Nat} {x:Oper} {v:Value} {S:World->Prop} (K:ops[i]?=some x) (q:∀ (j:Nat) (o:Oper) cs b,ops[j]?=some o->o.op≠ .select cs b)
    (X:∀ c a w,Q (.panic c) (a.put x.dst v) w->Q (.panic c) a w) :
    ∀ (fuel:Nat) (L:ZkI) (listed:Array Bool) (a:Act) (w:World),
      (∀ j y,ops[j]?=some y->j≠i->listed.getD j true=false->(∀ e∈y.after,Region.binds .any e=true->e.on≠i)->x.apart ops y=true) ->
      i∈Region.ready .any ops listed->YieldsIf P ops S x v a->S w->ZkI.all L w ->
      wpK rn P ops Q nx ((i,S)::L) fuel (listed.setIfInBounds i true) (a.put x.dst v) w->wpK rn P ops Q nx L (fuel+1) listed a w:=by
  intro fuel
  induction fuel with
  | zero =>
    intro L listed a w _ z I M N H
    refine ⟨fun h=>(by rw [h] at z;cases z),fun j J=>?_⟩
    by_cases d:j=i
    ·subst d
     exact Zgv u K I M ⟨fun p hp=>N p (l.mem _ _ _ hp),H⟩
    ·have:=ready_mono J d
     rw [H.1] at this
     cases this
  | succ fuel Y =>
    intro L listed a w f z I M N H
    refine ⟨fun h=>(by rw [h] at z;cases z),fun j J=>?_⟩
    by_cases d:j=i
    ·subst d
     exact Zgv u K I M ⟨fun p hp=>N p (l.mem _ _ _ hp),Zhx l _ _ _ _ _ _ (fun p hp=> .inl (.tail _ (l.mem _ _ _ hp))) H⟩
    ·have A:=H.2 j (ready_mono J d)
     obtain ⟨r,y,m,C⟩:=mem_ready.1 J
     have s:∀ e∈y.after,Region.binds .any e=true->e.on≠i:=fun e he O heq=>by
       have A:=C e he O
       have W:=(mem_ready.1 z).1
       rw [heq] at A
       rcases Aqd i listed.size with h' | h'
       ·simp [h'] at W A;rw [W] at A;cases A
       ·simp [Aqe h'] at A
     have Z:=ZsN u m (f j y m d r s) (fun cs b=>q i x cs b K) (fun cs b=>q j y cs b m) X I A
     have n:∀ k ok,ops[k]?=some ok->k≠i->(listed.setIfInBounds j true).getD k true=false ->
         (∀ e∈ok.after,Region.binds .any e=true->e.on≠i)->x.apart ops ok=true:=fun k ok hk R D T=>by
       refine f k ok hk R ?_ T
       by_cases E:j=k
       ·subst E;exact r
       ·rw [getD_set_ne true E] at D;exact D
     have t:((i,S):Nat × (World->Prop))∈nx ((i,S)::L) j:=by
       refine l.keep _ _ _ (.head _) ?_
       rintro ⟨o',F,e,he,O,U⟩
       rw [m] at F
       cases F
       exact s e he O U
     refine wpOpIn_mono (fun a' w' h3=>?_) Z
     obtain ⟨V,g,B⟩:=h3
     have G:ZkI.all (nx L j) w':=fun p hp=>g p (l.same _ _ _ _ hp (.tail _ (l.mem _ _ _ hp)))
     refine ⟨G,Y (nx L j) (listed.setIfInBounds j true) a' w' n (ready_mono z (Ne.symm d)) V (g _ t) G ?_⟩
     rw [Array.setIfInBounds_comm _ _ d]
     refine Zhx l _ _ _ _ _ _ (fun p hp=> .inl ?_) B
     rcases Awr.1 hp with rfl | hp
     ·exact t
     ·exact l.same _ _ _ _ hp (.tail _ (l.mem _ _ _ hp))
theorem ZtZ {i:Nat} {fuel:Nat} {L:ZkI} {listed:Array Bool} {a:Act} {w:World} (b:∀ j,j∈Region.ready .any ops listed->j=i) (hm:i∈Region.ready .any ops listed)
    (h:wpOpIn (fen rn) 0 P ops Q i (fun c w'=>(nx L i).all w'/\wpK rn P ops Q nx (nx L i) fuel (listed.setIfInBounds i true) c w') a w):wpK rn P ops Q nx L (fuel+1) listed a w :=
  ⟨fun d=>(by rw [d] at hm;cases hm),fun j e=>(b j e)▸h⟩
theorem ZEb {i j:Nat} {fuel:Nat} {L:ZkI} {listed:Array Bool} {a:Act} {w:World} (c:∀ k,k∈Region.ready .any ops listed->k=i\/k=j) (hm:i∈Region.ready .any ops listed)
    (d:wpOpIn (fen rn) 0 P ops Q i (fun b w'=>(nx L i).all w'/\wpK rn P ops Q nx (nx L i) fuel (listed.setIfInBounds i true) b w') a w)
    (f:wpOpIn (fen rn) 0 P ops Q j (fun b w'=>(nx L j).all w'/\wpK rn P ops Q nx (nx L j) fuel (listed.setIfInBounds j true) b w') a w):wpK rn P ops Q nx L (fuel+1) listed a w :=
  ⟨fun g=>(by rw [g] at hm;cases hm),fun k h=>(c k h).elim (fun e=>e▸d) (fun e=>e▸f)⟩
theorem ZAr {L:ZkI} {listed:Array Bool} {a:Act} {w:World} (b:Region.ready .any ops listed=[]) (h:Q .normal a w) :
    ∀ fuel,wpK rn P ops Q nx L fuel listed a w
  | 0=>⟨b,h⟩
  | _+1=>⟨fun _=>h,by rw [b];simp⟩
end
theorem ZtN (m i:Nat):Zg9 m i=m.testBit i:=by
  unfold Zg9 Nat.testBit
  have:Nat.land (Nat.shiftRight m i) 1=1 &&& (m >>> i):=by rw [Nat.and_comm];rfl
  rw [this]
  have a:(1 &&& (m >>> i))<2:=by rw [Nat.and_comm,Nat.and_one_is_mod];omega
  generalize (1 &&& (m >>> i))=x at a
  have:x=0\/x=1:=by omega
  rcases this with rfl | rfl<;>rfl
theorem ZqR (m i j:Nat):Zg9 (Zp0 m i) j=(Zg9 m j||decide (j=i)):=by
  rw [ZtN,ZtN]
  have:Zp0 m i=m ||| (1 <<< i):=rfl
  rw [this,Nat.testBit_or,Nat.one_shiftLeft,Nat.testBit_two_pow]
  congr 1
  exact decide_eq_decide.2 ⟨fun h=>h.symm,fun h=>h.symm⟩
theorem ZfO {m:Nat}:∀ {es:List Edge},Zpg m es=true↔∀ e∈es,Region.binds .any e=true->Zg9 m e.on=true
  | []=>by simp [Zpg]
  | e::es=>by
    simp only [Zpg,Axs]
    cases a:Region.binds .any e with
    | false=>simp only [cond_false,ZfO];simp
    | true =>
      cases hm:Zg9 m e.on with
      | false=>simp
      | true=>simp only [cond_true,ZfO];simp
theorem ZiU {i:Nat}:∀ {es:List Edge},ZfT i es=true↔∃ e,e∈es/\Region.binds .any e=true/\e.on=i
  | []=>by simp [ZfT]
  | e::es=>by
    have c:=ZiU (i:=i) (es:=es)
    simp only [ZfT]
    cases d:Nat.beq e.on i with
    | false =>
      have b:=Awi d
      simp only [cond_false,c]
      constructor
      ·rintro ⟨x,a,h⟩;exact ⟨x,.tail _ a,h⟩
      ·rintro ⟨x,a,h⟩
       rcases Awr.1 a with rfl | a
       ·exact absurd h.2 b
       ·exact ⟨x,a,h⟩
    | true =>
      have heq:=Awg d
      simp only [cond_true]
      cases f:Region.binds .any e with
      | true=>simp only [cond_true,true_iff];exact ⟨e,.head _,f,heq⟩
      | false =>
        simp only [cond_false,c]
        constructor
        ·rintro ⟨x,a,h⟩;exact ⟨x,.tail _ a,h⟩
        ·rintro ⟨x,a,h⟩
         rcases Awr.1 a with rfl | a
         ·rw [f] at h;cases h.1
         ·exact ⟨x,a,h⟩
structure Rel (ops:Array Oper) (m:Nat) (listed:Array Bool):Prop where
  size:listed.size=ops.size
  bit:∀ j,listed.getD j false=Zg9 m j
theorem Rel.zero (ops:Array Oper):Rel ops 0 (Array.replicate ops.size false) where
  size:=by simp
  bit j:=by
    rw [ZtN,Nat.zero_testBit]
    rw [Axt,Array.getElem?_replicate]
    split<;>rfl
theorem Rel.set {ops:Array Oper} {m:Nat} {listed:Array Bool} (h:Rel ops m listed) {i:Nat} (b:i<ops.size):Rel ops (Zp0 m i) (listed.setIfInBounds i true) where
  size:=by simp [h.size]
  bit j:=by
    rw [ZqR,<- h.bit j]
    by_cases a:j=i
    ·subst a
     have:j<listed.size:=by rw [h.size];exact b
     simp [Axt,this]
    ·simp [Axt,Ne.symm a,a]
theorem Rel.bit' {ops:Array Oper} {m:Nat} {listed:Array Bool} (h:Rel ops m listed) {j:Nat} (a:j<ops.size):listed.getD j true=Zg9 m j:=by
  rw [<- h.bit j]
  have:j<listed.size:=by rw [h.size];exact a
  simp [Axt,this]
theorem Rel.ready {ops:Array Oper} {m:Nat} {listed:Array Bool} (h:Rel ops m listed) {j:Nat}:j∈Region.ready .any ops listed↔∃ o,ops[j]?=some o/\Zcq m j o=true:=by
  rw [mem_ready]
  constructor
  ·rintro ⟨f,o,ho,c⟩
   refine ⟨o,ho,?_⟩
   have d:j<ops.size:=by
     rcases Aqd j ops.size with h | h
     ·exact h
     ·rw [Aqe h] at ho;cases ho
   unfold Zcq
   rw [<- h.bit' d,f]
   simp only [cond_false]
   exact ZfO.2 fun e he a=>by rw [<- h.bit];exact c e (by simpa using he) a
  ·rintro ⟨o,ho,b⟩
   have d:j<ops.size:=by
     rcases Aqd j ops.size with h | h
     ·exact h
     ·rw [Aqe h] at ho;cases ho
   unfold Zcq at b
   cases a:Zg9 m j with
   | true=>rw [a] at b;cases b
   | false =>
     rw [a] at b
     simp only [cond_false] at b
     exact ⟨by rw [h.bit' d,a],o,ho,fun e he a=>by rw [h.bit];exact ZfO.1 b e (by simpa using he) a⟩
theorem Zk6 {m i:Nat}:∀ {os:List Oper} {k:Nat},Zks m i k os=true->∀ j o,os[j]?=some o->Zcq m (k+j) o=true->k+j=i
  | [],k,_,j,o,ho,_=>by simp at ho
  | x::os,k,h,j,o,ho,a=>by
    simp only [Zks] at h
    cases b:Nat.beq k i with
    | true =>
      rw [b] at h
      cases j with
      | zero=>exact Awg b
      | succ j =>
        have:=Zk6 (k:=k+1) h j o (by simpa using ho) (by rw [show k+1+j=k+(j+1) from by omega];exact a)
        omega
    | false =>
      rw [b] at h
      simp only [cond_false] at h
      cases c:Zcq m k x with
      | true=>rw [c] at h;cases h
      | false =>
        rw [c] at h
        cases j with
        | zero =>
          simp at ho
          subst ho
          rw [Axk,c] at a
          cases a
        | succ j =>
          have:=Zk6 (k:=k+1) h j o (by simpa using ho) (by rw [show k+1+j=k+(j+1) from by omega];exact a)
          omega
theorem ZjK {m i l:Nat}:∀ {os:List Oper} {k:Nat},ZoQ m i l k os=true->∀ j o,os[j]?=some o->Zcq m (k+j) o=true->k+j=i\/k+j=l
  | [],k,_,j,o,ho,_=>by simp at ho
  | x::os,k,h,j,o,ho,a=>by
    simp only [ZoQ] at h
    cases b:(Nat.beq k i||Nat.beq k l) with
    | true =>
      rw [b] at h
      cases j with
      | zero =>
        rw [Bool.or_eq_true] at b
        exact b.imp Awg Awg
      | succ j =>
        have:=ZjK (k:=k+1) h j o (by simpa using ho) (by rw [show k+1+j=k+(j+1) from by omega];exact a)
        omega
    | false =>
      rw [b] at h
      simp only [cond_false] at h
      cases c:Zcq m k x with
      | true=>rw [c] at h;cases h
      | false =>
        rw [c] at h
        cases j with
        | zero =>
          simp at ho
          subst ho
          rw [Axk,c] at a
          cases a
        | succ j =>
          have:=ZjK (k:=k+1) h j o (by simpa using ho) (by rw [show k+1+j=k+(j+1) from by omega];exact a)
          omega
theorem Zo7 {ops:Array Oper} {g:Oper} {m i:Nat}:∀ {os:List Oper} {k:Nat},Zn5 ops g m i k os=true->∀ j o,os[j]?=some o->k+j≠i->Zg9 m (k+j)=false ->
    (∀ e∈o.after,Region.binds .any e=true->e.on≠i)->g.apart ops o=true
  | [],k,_,j,o,ho,_,_,_=>by simp at ho
  | x::os,k,h,j,o,ho,l,a,b=>by
    simp only [Zn5] at h
    generalize f:(bif Nat.beq k i then true else bif Zg9 m k then true else bif ZfT i x.after.toList then true else g.apart ops x)=c at h
    cases c with
    | false=>cases h
    | true =>
      simp only [cond_true] at h
      cases j with
      | succ j=>exact Zo7 (k:=k+1) h j o (by simpa using ho) (by omega) (by rw [show k+1+j=k+(j+1) from by omega];exact a) b
      | zero =>
        simp at ho
        subst ho
        have d:Nat.beq k i=false:=by
          cases d:Nat.beq k i with
          | false=>rfl
          | true=>exact absurd (Awg d) (by simpa using l)
        rw [Axk] at a
        rw [d,a] at f
        simp only [cond_false] at f
        cases hw:ZfT i x.after.toList with
        | true =>
          obtain ⟨e,he,d,n⟩:=ZiU.1 hw
          exact absurd n (b e (by simpa using he) d)
        | false=>rw [hw] at f;exact f
end Go.Fw
