/- Why a reading is right: the operations, all of them, continued: slices, fields, indexes, calls. -/
import Derived.Maps.RangeRun
import Derived.OrdersHeld
import Derived.OrdersIn
import Derived.Test.YtonbfpnngkemiaaGreatPa4
set_option linter.unusedVariables false
set_option linter.unusedSimpArgs false
namespace Go.Fw
open Go
section
variable{c:Cfg}{e:Env}{a:Act}{w:World}{h:Zf}{K:EV->Zf->Prop}{dst:Option Tmp}{type:TypeId}{pos:String}{after:Array Edge}{guard:Option (Nat×Bool)}
theorem Zgl(b:Agr c.n e a){d n:Int}{x:Option Operand}(h:ZxJ d (x.map e.ev)=some n):(x.map a.eval=none/\n=d)\/∃k,x.map a.eval=some (.int k n):=by
  rcases ZxI h with⟨h1,f⟩ |⟨k,h1⟩
  ·left
   cases x with
   |none=>exact⟨rfl,f⟩
   |some x=>cases h1
  ·right
   cases x with
   |none=>cases h1
   | some x=>
     simp only[Aqx,Awh]at h1;exact⟨k,by simp[b.ev h1,EV.v]⟩
theorem Zng(f:Agr c.n e a){t:TypeId}{x:Operand}{lo hi q:Option Operand}(d:opP c (.slice t x lo hi q) e h K):ZfC c ⟨dst,.slice t x lo hi q,type,pos,after,guard⟩ a h K:=by
  simp only[opP]at d;split at d
  ·rename_i s hu z;split at d
   ·rename_i l h g j;obtain⟨h0,h1,A,d⟩:=d;refine ZfC.of (s:=Instr.sliceAt t (a.eval x) (lo.map a.eval) (hi.map a.eval) (Option.map a.eval none)) rfl (λw hw=>?_) d;rw[f.ev z];exact Zlt hu (Zmz (m:=(s.size:Int)) (Zgl f g) (Zgl f j) (.inl ⟨rfl,rfl⟩) (λ_=>rfl) h0 h1 A (Int.le_refl _))
   ·exact d.elim
  ·rename_i el p l m hu z;split at d
   ·rename_i B up most size bytes g j r hs
    cases u:hi.isNone&&q.isSome with
    |true=>rw[u]at d;exact d.elim
    | false=>
      rw[u]at d;obtain⟨h0,h1,A,h3,d⟩:=d;obtain⟨i,k,y,_⟩:=ZfK hs;refine ZfC.of (v:=.val (.slice _ _ _)) (s:=Instr.sliceAt t (a.eval x) (lo.map a.eval) (hi.map a.eval) (q.map a.eval)) rfl (λw hw=>?_) d;rw[f.ev z];refine Zl8 hu k y (Zmz (Zgl f g) (Zgl f j) (Zgl f r) ?_ h0 h1 A h3);intro C
      cases hi with
      |some _=>cases C
      | none=>
        cases q with
        |none=>rfl
        |some _=>cases u
   ·exact d.elim
  ·rename_i n el v hu z;split at d
   ·rename_i B up most size bytes g j r hs
    cases u:hi.isNone&&q.isSome with
    |true=>rw[u]at d;exact d.elim
    | false=>
      rw[u]at d;obtain⟨b,o,D,d⟩:=Zju d;obtain⟨h0,h1,A,h3,d⟩:=d;obtain⟨i,k,y,_⟩:=ZfK hs;refine ZfC.of (v:=.val (.slice _ _ _)) (s:=Instr.sliceAt t (a.eval x) (lo.map a.eval) (hi.map a.eval) (q.map a.eval)) rfl (λw hw=>?_) d;rw[f.ev z,D];refine Zl9 hu k y (Zmz (Zgl f g) (Zgl f j) (Zgl f r) ?_ h0 h1 A h3);intro C
      cases hi with
      |some _=>cases C
      | none=>
        cases q with
        |none=>rfl
        |some _=>cases u
   ·exact d.elim
  ·exact d.elim
theorem ZiI(g:Agr c.n e a){s:TypeId}{x:Operand}{f:Nat}(d:opP c (.fieldAddr s x f) e h K):ZfC c ⟨dst,.fieldAddr s x f,type,pos,after,guard⟩ a h K:=by
  simp only[opP]at d;split at d
  ·rename_i fs v hu j;split at d
   ·rename_i fd k
    cases i:Nat.beq (c.P.cellsOf fd.type) 0 with
    |true=>rw[i]at d;exact d.elim
    | false=>
      rw[i]at d;obtain⟨b,o,l,d⟩:=Zju d;rw[ZtV]at d;refine ZfC.of (s:=Instr.fieldAt s (a.eval x) f) rfl (λw hw=>?_) d;rw[g.ev j,l];exact Ztp hu k (Awi i)
   ·exact d.elim
  ·exact d.elim
theorem Zni(g:Agr c.n e a){s:TypeId}{x:Operand}{f:Nat}(b:opP c (.field s x f) e h K):ZfC c ⟨dst,.field s x f,type,pos,after,guard⟩ a h K:=by
  simp only[opP]at b;split at b
  ·rename_i fs cs hu k;split at b
   ·rename_i fd l
    cases hd:c.P.underlying fd.type with
    |none=>rw[hd]at b;exact b.elim
    | some d=>
      obtain⟨i,hi⟩:=Zbf c.P hd;rw[hd]at b
      cases j:Zck (some d)with
      | true=>
        rw[j,Zcr c.P hi]at b;refine ZfC.of (v:=.val (.agg _)) (s:=Instr.field s (a.eval x) f) rfl (λw hw=>?_) b;rw[g.ev k];exact ZqH hu l hd j hi
      | false=>
        rw[j]at b;simp only[cond_false]at b;split at b
        ·rename_i v hv;refine ZfC.of (v:=.val v) (s:=Instr.field s (a.eval x) f) rfl (λw hw=>?_) b;rw[g.ev k];exact ZqG hu l hd j hv
        ·exact b.elim
   ·exact b.elim
  ·exact b.elim
theorem ZiH(g:Agr c.n e a){t:TypeId}{x i:Operand}(d:opP c (.indexAddr t x i) e h K):ZfC c ⟨dst,.indexAddr t x i,type,pos,after,guard⟩ a h K:=by
  simp only[opP]at d;split at d
  ·rename_i el p l m k n hu r hi;split at d
   ·rename_i size bytes hs;obtain⟨b,o,rfl,h0,h1,d⟩:=d;obtain⟨inf,f,q,_⟩:=ZfK hs;refine ZfC.of (s:=Instr.indexAt t (a.eval x) (a.eval i)) rfl (λw hw=>?_) d;rw[g.ev r,g.ev hi];exact Zmb hu f q h0 h1
   ·exact d.elim
  ·rename_i n el v k j hu r hi;split at d
   ·rename_i size bytes hs;obtain⟨b,o,u,d⟩:=Zju d;obtain⟨h0,h1,d⟩:=d;obtain⟨inf,f,q,_⟩:=ZfK hs;refine ZfC.of (s:=Instr.indexAt t (a.eval x) (a.eval i)) rfl (λw hw=>?_) d;rw[g.ev r,g.ev hi,u];exact Zmc hu f q h0 h1
   ·exact d.elim
  ·exact d.elim
theorem Zov{d:Option TypeDesc}{v:Value}{K:EV->Prop}(a:ZuV d v K):∃u:EV,u.v=v/\K u:=by
  unfold ZuV at a
  split at a<;>first
    |exact a.elim
    |(obtain⟨x,b,c⟩:=a;refine⟨_,?_,c⟩;exact b.symm)
    |exact⟨.val v,rfl,a⟩
theorem ZlV{P:Program}{t:TypeId}{v:Value}{K:EV->Prop}(a:ZFC P t v K):∃u:EV,u.v=v/\K u:=by
  unfold ZFC at a
  cases b:Zck (P.underlying t)with
  | true=>
    rw[b]at a;obtain⟨r,c,d⟩:=a;exact⟨.val (.agg (Tup.vals _ r).toArray),c.symm,d⟩
  | false=>
    rw[b]at a;exact Zov a
theorem Znh(d:Agr c.n e a){t:TypeId}{x i:Operand}(b:opP c (.index t x i) e h K):ZfC c ⟨dst,.index t x i,type,pos,after,guard⟩ a h K:=by
  simp only[opP]at b;split at b
  ·rename_i s k n hu f hi;obtain⟨y,h0,l,b⟩:=b;refine ZfC.of (v:=.val (.int .u8 y.toNat)) (s:=Instr.index t (a.eval x) (a.eval i)) rfl (λw hw=>?_) b;rw[d.ev f,d.ev hi];exact ZmV hu h0 l
  ·rename_i n el cs k j hu f hi;split at b
   ·rename_i gs he;obtain⟨hl,b⟩:=Zgy b;obtain⟨h0,h1,b⟩:=b;obtain⟨u,g,b⟩:=ZlV b;refine ZfC.of (v:=u) (s:=Instr.index t (a.eval x) (a.eval i)) rfl (λw hw=>?_) b;rw[d.ev f,d.ev hi,g];exact Znx hu he h0 h1 (Awg hl)
   ·exact b.elim
  ·exact b.elim
theorem ZkY(d:Agr c.n e a){x:Operand}{i:Nat}(b:opP c (.extract x i) e h K):ZfC c ⟨dst,.extract x i,type,pos,after,guard⟩ a h K:=by
  simp only[opP]at b;split at b
  ·rename_i k l g
   cases f:Nat.beq i 0 with
   |false=>rw[f]at b;exact b.elim
   | true=>
     rw[f]at b;have hi:=Awg f;subst hi;refine ZfC.of (v:=.lit true) (s:=Instr.extract (a.eval x) 0) rfl (λw hw=>?_) b;rw[d.ev g];rfl
  ·rename_i g
   cases f:Nat.beq i 0 with
   |false=>rw[f]at b;exact b.elim
   | true=>
     rw[f]at b;have hi:=Awg f;subst hi;refine ZfC.of (v:=.lit false) (s:=Instr.extract (a.eval x) 0) rfl (λw hw=>?_) b;rw[d.ev g];rfl
  ·rename_i vs g;split at b
   ·rename_i v hv
    refine ZfC.of (v:=.val v) (s:=Instr.extract (a.eval x) i) rfl (λw hw=>?_) b;rw[d.ev g];have j:vs[i]?=some v:=by simpa using hv
    simp only[EV.v,Instr.extract,j];rfl
   ·exact b.elim
  ·exact b.elim
theorem Y1{P:Program}{w w':World}{ρ:Operand->Value}{b:Builtin}{args:Array Operand}{ts:Array TypeId}{v:Value}{s:Sem Value}
    (a:∀type consts,builtin b ts type consts (args.map ρ)=(do pure (.value (<-s)))) (c:s.run P w= .ok v w'):
    (execOp ρ ⟨dst,.call ⟨.builtin b,args,ts⟩,type,pos,after,guard⟩).run P w= .ok (.value v) w':=by
  simp only[execOp,resolve,Awk,Awp,Awl,invoke,a,c]
theorem ZdV(b:Agr c.n e a){args:Array Operand}{es:List EV}(h:evs e args.toList=some es):args.map a.eval=(es.map EV.v).toArray:=by apply Axd;simp[b.evs h]
theorem YD(g:Agr c.n e a){b:Builtin}{args:Array Operand}{ts:Array TypeId}(o:(b= .len/\ZkT c.P ts=false)\/b= .cap\/b= .min\/b= .max)(f:Zo6 c (.call ⟨.builtin b,args,ts⟩) e h K):
    ZfC c ⟨dst,.call ⟨.builtin b,args,ts⟩,type,pos,after,guard⟩ a h K:=by
  rcases o with⟨rfl,j⟩ |rfl|rfl|rfl
  ·simp only[Zo6]at f;split at f
   ·rename_i t v i hv;have d:=ZdV g hv
    have key:∀n:Int,(∀w,(Builtin.len_ ts type #[v.v]).run c.P w= .ok (.int .i64 n) w)->K (.val (.int .i64 n)) h->ZfC c ⟨dst,.call ⟨.builtin .len,args,ts⟩,type,pos,after,guard⟩ a h K:=by
      intro n q f;refine⟨.val (.int .i64 n),λw _=>?_,f⟩;refine Y1 (s:=Builtin.len_ ts type #[v.v]) (λty cs=>?_) (q w);rw[d];rfl
    split at f
    ·rename_i s hu;refine key _ (λw=>?_) f;unfold Builtin.len_;simp only[i,EV.v,Axf,Axg,Awk,Zl c.P w t hu,Awl];rfl
    ·rename_i el p n m hu;refine key _ (λw=>?_) f;unfold Builtin.len_;simp only[i,EV.v,Axf,Axg,Awk,Zl c.P w t hu,Awl];rfl
    ·rename_i n el hu;refine key _ (λw=>?_) f;unfold Builtin.len_;simp only[i,Axf,Axg,Awk,Zl c.P w t hu,Awl];rfl
    ·rename_i hu;simp[ZkT,i,hu]at j
    ·exact f.elim
   ·exact f.elim
  ·simp only[Zo6]at f;split at f
   ·rename_i t v i hv;have d:=ZdV g hv;split at f
    ·rename_i el p n m hu;refine⟨.val (.int .i64 m),λw _=>?_,f⟩;refine Y1 (s:=Builtin.cap_ ts type #[.slice p n m]) (λty cs=>?_) ?_
     ·rw[d];rfl
     ·unfold Builtin.cap_;simp only[i,Axf,Axg,Awk,Zl c.P w t hu,Awl];rfl
    ·exact f.elim
   ·exact f.elim
  ·simp only[Zo6]at f;split at f
   ·rename_i k x l y hv;have d:=ZdV g hv;refine⟨.val (.int k (ZqT x y)),λw _=>?_,f⟩;refine Y1 (s:=Builtin.min_ ts type #[.int k x,.int l y]) (λty cs=>?_) ?_
    ·rw[d];rfl
    ·unfold Builtin.min_;simp[Builtin.min2,ZqT,EV.v]
   ·exact f.elim
  ·simp only[Zo6]at f;split at f
   ·rename_i k x l y hv;have d:=ZdV g hv;refine⟨.val (.int k (ZiE x y)),λw _=>?_,f⟩;refine Y1 (s:=Builtin.max_ ts type #[.int k x,.int l y]) (λty cs=>?_) ?_
    ·rw[d];rfl
    ·unfold Builtin.max_;simp[Builtin.max2,ZiE,EV.v]
   ·exact f.elim
theorem Zw8(g:Agr c.n e a){args:Array Operand}{ts:Array TypeId}(d:Zo6 c (.call ⟨.builtin .len,args,ts⟩) e h K):
    ZtZ c ⟨dst,.call ⟨.builtin .len,args,ts⟩,type,pos,after,guard⟩ a h K:=by
  cases hm:ZkT c.P ts with
  |false=>exact(YD g (.inl ⟨rfl,hm⟩) d).q
  | true =>
    simp only[Zo6]at d;split at d
    ·rename_i t v i hv;have f:=ZdV g hv;split at d
     ·rename_i s hu;simp[ZkT,i,hu]at hm
     ·rename_i el p n m hu;simp[ZkT,i,hu]at hm
     ·rename_i n el hu;simp[ZkT,i,hu]at hm
     ·rename_i kt et m hu
      have key:∀n:Int,(∀w:World,w.heap=h->(Builtin.len_ ts type #[.map m]).run c.P w= .ok (.int .i64 n) w)->K (.val (.int .i64 n)) h->ZtZ c ⟨dst,.call ⟨.builtin .len,args,ts⟩,type,pos,after,guard⟩ a h K:=by
        intro n j d;refine⟨.val (.int .i64 n),λw hw=>?_,d⟩;refine Y1 (s:=Builtin.len_ ts type #[.map m]) (λty cs=>?_) (j w hw);rw[f];rfl
      cases m with
      | none=>
        refine key 0 (λw _=>?_) (d.1 rfl);unfold Builtin.len_;simp only[i,Axf,Axg,Awk,Zl c.P w t hu,Awl];rfl
      | some b=>
        obtain⟨es,cl,k,d⟩:=d.2 b rfl;refine key _ (λw hw=>?_) d;subst hw;unfold Builtin.len_;simp only[i,Axf,Axg,Awk,Zl c.P w t hu,Awl,MapKept.run_getObj_map k];rfl
     ·exact d.elim
    ·exact d.elim
theorem Zk8{d:TypeDesc}{k:Value}(h:Zx7 d k=true):MapKept.IsKey d k:=by
  unfold Zx7 at h;split at h
  ·split at h
   ·rename_i a;subst a;rfl
   ·cases h
  ·trivial
  ·trivial
  ·cases h
theorem ZvQ{P:Program}{t kt et:TypeId}{d:TypeDesc}{m:Option Nat}{k z:Value}{inf:TypeInfo}{h:Zf}{K:Option Value->Prop}(hu:P.underlying t=some (.map kt et))(hd:P.underlying kt=some d)(a:Zx7 d k=true)
    (c:P.info? et=some inf) (f:inf.zero=some z) (e:Zhj d h m k K):
    ∃r:Option Value,(∀(ok:Bool) (w:World),w.heap=h->(Instr.lookup t (.map m) k ok).run P w= .ok (if ok then .tuple #[r.getD z,.bool r.isSome]else r.getD z) w)/\K r:=by
  have hz:∀w:World,(zeroValue et).run P w= .ok z w:=λw=>Zam P w et c f
  cases m with
  | none=>
    refine⟨none,λok w hw=>?_,e.1 rfl⟩;unfold Instr.lookup;have g:(Instr.findKey kt k []).run P w= .ok none w:=MapKept.run_findKey hd rfl;simp only[Awk,Zl P w t hu,Awl,Awp,MapKept.run_checkKey hd (Zk8 a),g,hz];rfl
  | some b=>
    obtain⟨es,cl,r,j,i,e⟩:=e.2 b rfl;refine⟨r.map (·.2),λok w hw=>?_,e⟩;subst hw;unfold Instr.lookup;have g:(Instr.findKey kt k es.toList).run P w= .ok r w:=MapKept.run_findKey hd i;simp only[Awk,Zl P w t hu,Awl,MapKept.run_getObj_map j,Awp,MapKept.run_checkKey hd (Zk8 a),g]
    cases r with
    |none=>simp only[Awk,hz,Awl];rfl
    |some x=>rfl
theorem ZvP{P:Program}{t kt et:TypeId}{d:TypeDesc}{m:Option Nat}{k v:Value}{w:World}{K:Zf->Prop}(hu:P.underlying t=some (.map kt et))(hd:P.underlying kt=some d)(a:Zx7 d k=true)
    (e:Zj0 d w.heap m k v K):∃w',(Instr.mapUpdate t (.map m) k v).run P w= .ok () w'/\Same w w'/\K w'.heap:=by
  obtain⟨b,es,cl,r,rfl,f,g,c,e⟩:=e;refine⟨{w with heap:=w.heap.setIfInBounds b (ZIA es cl k v r)},?_,⟨rfl,rfl,rfl⟩,e⟩;unfold Instr.mapUpdate;have l:(Instr.findKey kt k es.toList).run P w= .ok r w:=MapKept.run_findKey hd c;simp only[Awk,Zl P w t hu,Awl,MapKept.run_getObj_map f,MapKept.run_checkKey hd (Zk8 a),l]
  rcases MapKept.findNow_spec (Zk8 a) es.toList 0 g with⟨h1,_⟩ |⟨j,n,h1,o,h3⟩
  ·rw[c]at h1;cases h1;exact MapKept.run_setObj_map _ f
  ·rw [c] at h1;cases h1
   have h:(Instr.keyThatStays (((es[0+j]?).map (·.key)).getD k) k).run P w= .ok k w:=by
     have i:es[0+j]?=some n:=by rw[Awb];simpa using o
     rw[i];simp only[Aqx,Axm,h3];unfold Instr.keyThatStays
     have hs:Instr.sameBits 10000 k k=true:=by
       unfold Zx7 at a
       split at a<;>first
         |(simp[Instr.sameBits];done)
         |(exact(MapKept.bytes_beq _ _).2 rfl)
         |cases a
     rw[if_pos hs];rfl
   simp only[Awk,h,Awl];exact MapKept.run_setObj_map _ f
theorem Zn0{d:TypeDesc}{v w:Value}(hv:MapKept.IsKey d v)(hw:MapKept.IsKey d w):Zjp (some d) v w=some (ZjC v w):=by
  cases d<;>cases v<;>cases w<;>first
    |exact hv.elim
    |exact hw.elim
    |rfl
    |skip
  rename_i k a e b f;have h1:a=k:=hv;have c:b=k:=hw;subst h1;subst c;simp[Zjp,ZjC]
theorem Zq6{P:Program}{t:TypeId}(h:Zo2 (P.underlying t)=true):P.underlying t=some ((P.underlying t).getD .bool):=by
  cases hu:P.underlying t with
  |none=>rw[hu]at h;cases h
  |some d=>rfl
theorem ZlP{P:Program}:∀{fs:List Field} {i:Nat} {xs ys:List Value},Zko P fs i=true->ZaF (Zkp P fs) (xs.drop i)->ZaF (Zkp P fs) (ys.drop i)->
    ZhF P fs xs ys=some (Zfa (xs.drop i) (ys.drop i))
  | [],i,xs,ys,_,g,h=>by
    cases c:xs.drop i with
    |cons a l=>rw[c]at g;exact g.elim
    | nil=>cases d:ys.drop i with
      |cons a l=>rw[d]at h;exact h.elim
      |nil=>rfl
  | f::fs,i,xs,ys,e,g,h=>by
    simp only[Zko]at e
    cases o:(f.name== "_")with
    |true=>rw[o]at e;cases e
    | false =>
      rw[o]at e;simp only[cond_false]at e
      cases j:(Nat.beq f.offset i&&Zo2 (P.underlying f.type))with
      |false=>rw[j]at e;cases e
      | true =>
        rw[j]at e;simp only[cond_true]at e;simp only[Awn]at j;have ho:=Awg j.1
        cases c:xs.drop i with
        |nil=>rw[c]at g;exact g.elim
        | cons a l=>
          cases d:ys.drop i with
          |nil=>rw[d]at h;exact h.elim
          | cons b m=>
            rw[c]at g;rw[d]at h;have p:xs[f.offset]?=some a:=by rw[ho];have:=congrArg (λl=>l[0]?) c;simpa using this
            have q:ys[f.offset]?=some b:=by rw[ho];have:=congrArg (λl=>l[0]?) d;simpa using this
            have k:xs.drop (i+1)=l:=by rw[<-Axn,c];rfl
            have n:ys.drop (i+1)=m:=by rw[<-Axn,d];rfl
            have r:=ZlP (P:=P) (fs:=fs) (i:=i+1) (xs:=xs) (ys:=ys) e (by rw[k];exact g.2) (by rw[n];exact h.2)
            have hl:Zjp (P.underlying f.type) a b=some (ZjC a b):=by
              rw[Zq6 j.2];exact Zn0 g.1 h.1
            simp only[ZhF,o,cond_false,p,q,hl,r,k,n,Zfa]
theorem ZqX:∀{a:List TypeDesc} {vs:List Value},Zx6 a vs=true->ZaF a vs
  |[],[],_=>trivial
  | d::a,v::vs,h=>by
    simp only[Zx6]at h
    cases b:Zx7 d v with
    |false=>rw[b]at h;cases h
    |true=>rw[b]at h;exact⟨Zk8 b,ZqX h⟩
  |[],_::_,h=>by cases h
  |_::_,[],h=>by cases h
theorem ZpR{P:Program}{kt:TypeId}{fs:Array Field}{cs:List Value}(h:ZBn P kt fs cs=true):P.stoodInHeld kt=false/\Zko P fs.toList 0=true/\ZaF (Zkp P fs.toList) cs:=by
  unfold ZBn at h
  cases h1:P.stoodInHeld kt with
  |true=>rw[h1]at h;cases h
  | false=>
    rw[h1]at h
    cases a:Zko P fs.toList 0 with
    |false=>rw[a]at h;cases h
    |true=>rw[a]at h;exact⟨rfl,rfl,ZqX h⟩
theorem ZqI{P:Program}{w:World}{kt:TypeId}{fs:Array Field}{cs:List Value}(hd:P.underlying kt=some (.struct fs))(b:Zko P fs.toList 0=true)(d:ZaF (Zkp P fs.toList) cs)(e:Bool)(n:Nat):
    (Instr.checkKey e (n+1+1) kt (.agg cs.toArray)).run P w= .ok () w:=by
  unfold Instr.checkKey;simp only[Awk,Zl P w kt hd,Awl];rw[<-Array.forIn_toList]
  have key:∀ (fs:List Field) (i:Nat),Zko P fs i=true->ZaF (Zkp P fs) (cs.drop i)->
      (forIn fs PUnit.unit λf _=>(do
        if f.name≠ "_" then Instr.checkKey e (n+1) f.type (<-part f.type cs.toArray f.offset)
        pure (ForInStep.yield PUnit.unit):Sem (ForInStep PUnit))).run P w= .ok PUnit.unit w:=by
    intro fs
    induction fs with
    |nil=>intro i _ _;simp
    | cons f fs p =>
      intro i b d;simp only[Zko]at b
      cases j:(f.name== "_")with
      |true=>rw[j]at b;cases b
      | false =>
        rw[j]at b;simp only[cond_false]at b
        have k:f.name≠ "_" :=by
          intro he;rw[he]at j;simp at j
        cases g:(Nat.beq f.offset i&&Zo2 (P.underlying f.type))with
        |false=>rw[g]at b;cases b
        | true =>
          rw[g]at b;simp only[cond_true]at b;simp only[Awn]at g;have ho:=Awg g.1
          cases c:cs.drop i with
          |nil=>rw[c]at d;exact d.elim
          | cons a l=>
            rw[c]at d;have m:cs.toArray[f.offset]?=some a:=by rw[ho];have:=congrArg (λl=>l[0]?) c;simpa using this
            have o:cs.drop (i+1)=l:=by rw[<-Axn,c];rfl
            have hu:=Zq6 g.2
            have h1:Zck (P.underlying f.type)=false:=by
              have:=g.2;unfold Zo2 at this
              split at this<;>first
                |(rename_i h;rw[h];rfl)
                |cases this
            have q:=Zdh (P:=P) (w:=w) (t:=f.type) (xs:=cs.toArray) (off:=f.offset) h1 (by rw[hu];rfl) m;have r:=MapKept.run_checkKey (P:=P) (w:=w) hu d.1 e n;have:=p (i+1) b (by rw[o];exact d.2);simp only[ne_eq]at this;simp only[Axk,ne_eq,k,not_false_eq_true,if_true,Awk,q,Awl,r,Awp];exact this
  have:=key fs.toList 0 b (by simpa using d);simp only[this,Awl,Awp]
theorem ZrQ{P:Program}{w:World}{kt:TypeId}{fs:Array Field}{xs ys:List Value}(hd:P.underlying kt=some (.struct fs))(hs:P.stoodInHeld kt=false)(b:Zko P fs.toList 0=true)
    (c:ZaF (Zkp P fs.toList) xs) (d:ZaF (Zkp P fs.toList) ys):(Op.equal kt (.agg xs.toArray) (.agg ys.toArray)).run P w= .ok (Zfa xs ys) w:=by
  have a:P.fieldsOf kt=fs:=by unfold Program.fieldsOf;rw[hd]
  unfold Op.equal Op.maxDepth;rw[show(10000:Nat)=9998+1+1 from rfl,run_equalIn_agg w _ kt _ _ (by rw[a];exact hd) hs,a];have:=ZlP (P:=P) (fs:=fs.toList) (i:=0) (xs:=xs) (ys:=ys) b (by simpa using c) (by simpa using d);exact Zjr (xs:=xs.toArray) (ys:=ys.toArray) this
structure Zqb(P:Program)(kt:TypeId)(d:TypeDesc)(ds:List TypeDesc):Prop where
  und:P.underlying kt=some d
  chk:∀{cs:List Value},ZaF ds cs->∀(e:Bool) (n:Nat) (w:World),(Instr.checkKey e (n+1+1) kt (.agg cs.toArray)).run P w= .ok () w
  eq:∀{xs ys:List Value},ZaF ds xs->ZaF ds ys->∀w:World,(Op.equal kt (.agg xs.toArray) (.agg ys.toArray)).run P w= .ok (Zfa xs ys) w
  now:∀(x:Array Value) (y:Value),Instr.sameNow d (.agg x) y=none
theorem ZyY{P:Program}{kt:TypeId}{fs:Array Field}(hd:P.underlying kt=some (.struct fs))(hs:P.stoodInHeld kt=false)(a:Zko P fs.toList 0=true):Zqb P kt (.struct fs) (Zkp P fs.toList):=
  ⟨hd,λhl e n w=>ZqI hd a hl e n,λb c w=>ZrQ hd hs a b c,λx y=>by unfold Instr.sameNow;rfl⟩
theorem ZyP{b A:Bool}(h:(bif b then A else false)=true):b=true/\A=true:=by
  cases b with
  |true=>exact⟨rfl,h⟩
  |false=>cases h
theorem ZpS{P:Program}{n:Nat}{e:TypeId}{cs:List Value}(h:ZBo P n e cs=true):n=2/\Zo2 (P.underlying e)=true/\(∃i,P.info? e=some i/\i.size=1)/\ZaF [(P.underlying e).getD .bool,(P.underlying e).getD .bool] cs:=by
  unfold ZBo at h;obtain⟨h1,h⟩:=ZyP h;obtain⟨a,h⟩:=ZyP h
  cases hi:P.info? e with
  |none=>rw[hi]at h;cases h
  | some i=>
    rw[hi]at h;obtain⟨h3,h⟩:=ZyP h;exact⟨Awg h1,a,⟨i,rfl,Awg h3⟩,ZqX h⟩
theorem Zwf{d:Option TypeDesc}(h:Zo2 d=true):Zck d=false:=by
  unfold Zo2 at h
  split at h<;>first
    |rfl
    |cases h
theorem Zxd{c:TypeDesc}{cs:List Value}(h:ZaF [c,c] cs):∃a b,cs=[a,b]/\MapKept.IsKey c a/\MapKept.IsKey c b:=by
  match cs,h with
  |[a,b],⟨h1,d,_⟩=>exact⟨a,b,rfl,h1,d⟩
  |[],h=>exact h.elim
  |[_],⟨_,h⟩=>exact h.elim
  |_::_::_::_,⟨_,_,h⟩=>exact h.elim
theorem ZyZ{P:Program}{kt el:TypeId}(hd:P.underlying kt=some (.array 2 el))(o:Zo2 (P.underlying el)=true)(hi:∃i,P.info? el=some i/\i.size=1):
    Zqb P kt (.array 2 el) [(P.underlying el).getD .bool,(P.underlying el).getD .bool]:=by
  obtain⟨i,hi,h1⟩:=hi;have hu:=Zq6 o;have hs:∀w:World,(sizeOf el).run P w= .ok 1 w:=λw=>by rw[Xo P w el hi,h1]
  have f:∀(xs:Array Value) (off:Nat) (x:Value) (w:World),xs[off]?=some x->(part el xs off).run P w= .ok x w:=λxs off x w h=>Zdh (Zwf o) (by rw[hu];rfl) h;refine⟨hd,λ{cs} hl e n w=>?_,λ{xs ys} h q w=>?_,λx y=>by unfold Instr.sameNow;rfl⟩
  ·obtain⟨a,b,rfl,j,k⟩:=Zxd hl;have r:=MapKept.run_checkKey (P:=P) (w:=w) hu j e n;have cb:=MapKept.run_checkKey (P:=P) (w:=w) hu k e n;have l:=f #[a,b] 0 a w rfl;have g:=f #[a,b] 1 b w rfl;unfold Instr.checkKey;simp only[Awk,Zl P w kt hd,Awl,Std.Legacy.Range.forIn_eq_forIn_range',Std.Legacy.Range.size,Nat.sub_zero,Nat.add_sub_cancel,Nat.div_one,List.range',Axk,List.forIn_nil,hs,Aqs,Nat.one_mul,Aqv,Awb,l,g,r,cb,Awp]
  ·obtain ⟨a,b,rfl,j,k⟩:=Zxd h
   obtain⟨c,d,rfl,s,m⟩:=Zxd q;have t:Zjp (P.underlying el) a c=some (ZjC a c):=by rw[hu];exact Zn0 j s
   have u:Zjp (P.underlying el) b d=some (ZjC b d):=by rw[hu];exact Zn0 k m
   have v:=(Zjo (d:=9998) (w:=w) t).2.2;have z:=(Zjo (d:=9998) (w:=w) u).2.2;have l:=f #[a,b] 0 a w rfl;have g:=f #[a,b] 1 b w rfl;have A:=f #[c,d] 0 c w rfl;have p:=f #[c,d] 1 d w rfl;unfold Op.equal Op.maxDepth;rw[show(10000:Nat)=9998+1+1 from rfl];unfold Op.equalIn;simp only[Awk,Zl P w kt hd,Awl,Std.Legacy.Range.forIn_eq_forIn_range',Std.Legacy.Range.size,Nat.sub_zero,Nat.add_sub_cancel,Nat.div_one,List.range',Axk,List.forIn_nil,hs,Aqs,Nat.one_mul,Aqv,Awb,l,g,A,p,v,Awp,Zfa];cases ZjC a c<;>simp only[Bool.not_true,Axj,Aqc,if_true,if_false,Awk,Awp,Awl,cond_true,cond_false,g,p,z];cases ZjC b d<;>simp[Awp]
theorem ZkS{P:Program}{w:World}{kt:TypeId}{d:TypeDesc}{b:List TypeDesc}{k:List Value}(c:Zqb P kt d b)
    (f:ZaF b k):∀(l:List MapEntry) (i:Nat),(∀x,x∈l->ZkJ b x.key)->(Instr.findAsking kt (.agg k.toArray) l i).run P w= .ok (ZhE k l i) w
  |[],i,_=>rfl
  | e::l,i,h=>by
    obtain⟨cs,a,hl⟩:=h e (.head _);have he:=c.eq f hl w;have g:=ZkS (w:=w) c f l (i+1) (λx j=>h x (.tail _ j));unfold Instr.findAsking;have m:ZmA k e.key=Zfa k cs:=by rw[a];simp[ZmA]
    rw[a];simp only[Awk,he,Awl,ZhE,m]
    cases Zfa k cs with
    |true=>simp
    |false=>simpa using g
theorem ZjS{P:Program}{w:World}{kt:TypeId}{d:TypeDesc}{a:List TypeDesc}{k:List Value}(b:Zqb P kt d a)
    (c:ZaF a k) (l:List MapEntry) (h:∀x,x∈l->ZkJ a x.key):(Instr.findKey kt (.agg k.toArray) l).run P w= .ok (ZhE k l 0) w:=by
  unfold Instr.findKey;simp only[Awk,Zl P w kt b.und,Awl]
  cases l with
  |nil=>rfl
  | cons e l=>
    have:Instr.findNow d (.agg k.toArray) (e::l) 0=none:=by
      unfold Instr.findNow;rw[b.now]
    rw[this];exact ZkS b c (e::l) 0 h
theorem ZkR:∀{e:List TypeDesc} {xs ys:List Value} (n:Nat),ZaF e xs->ZaF e ys->Zfa xs ys=true->xs=ys
  |[],[],[],_,_,_,_=>rfl
  | d::e,x::xs,y::ys,n,a,b,h=>by
    simp only[Zfa]at h
    cases c:ZjC x y with
    |false=>rw[c]at h;cases h
    | true =>
      rw[c]at h
      have:x=y:=by
        have h1:=a.1;have f:=b.1
        cases d<;>cases x<;>cases y<;>first
          |exact h1.elim
          |exact f.elim
          |skip
        all_goals simp only[ZjC,Z2,MapKept.IsKey,beq_iff_eq]at c h1 f
        all_goals first
          |(subst c;rfl)
          |(subst h1;subst f;subst c;rfl)
          |(congr 1;exact(MapKept.bytes_beq _ _).1 ((beq_toListBytes _ _).trans (by simpa using c)))
      rw[this,ZkR n a.2 b.2 h]
  |[],[],_::_,_,_,b,_=>b.elim
  |[],_::_,_,_,a,_,_=>a.elim
  |_::_,[],_,_,a,_,_=>a.elim
  |_::_,_::_,[],_,_,b,_=>b.elim
theorem ZiC{k:List Value}:∀{l:List MapEntry} {i j:Nat} {v:Value},ZhE k l i=some (j,v)->∃m e,j=i+m/\l[m]?=some e/\e.val=v/\ZmA k e.key=true
  | e::l,i,j,v,h=>by
    simp only[ZhE]at h
    cases a:ZmA k e.key with
    | true=>
      rw[a]at h;simp only[cond_true,Awh,Prod.mk.injEq]at h;exact⟨0,e,h.1.symm,rfl,h.2,a⟩
    | false=>
      rw[a]at h;obtain⟨m,b,h1,c,h3,d⟩:=ZiC (l:=l) (i:=i+1) h;exact⟨m+1,b,by omega,c,h3,d⟩
theorem ZqE:∀{a:List TypeDesc} {xs:List Value},ZaF a xs->Instr.sameBits 10000 (.agg xs.toArray) (.agg xs.toArray)=true:=by
  intro a xs h
  have key:∀(a:List TypeDesc) (xs:List Value),ZaF a xs->((xs.zip xs).all λ(x,y)=>Instr.sameBits 9999 x y)=true:=by
    intro a
    induction a with
    | nil=>intro xs h;cases xs with
      |nil=>rfl
      |cons _ _=>exact h.elim
    | cons d a b=>
      intro xs h
      cases xs with
      |nil=>exact h.elim
      | cons x xs=>
        simp only[List.zip_cons_cons,Awm,Awn];refine⟨?_,b xs h.2⟩;have h1:=h.1
        cases d<;>cases x<;>first
          |exact h1.elim
          |(simp[Instr.sameBits];done)
          |exact(MapKept.bytes_beq _ _).2 rfl
  show(xs.toArray.size==xs.toArray.size&&(xs.toArray.toList.zip xs.toArray.toList).all λ(x,y)=>Instr.sameBits 9999 x y)=true;rw[Awn];exact⟨by simp,key a xs h⟩
theorem Znw{P:Program}{t kt et:TypeId}{d:TypeDesc}{i:List TypeDesc}{m:Option Nat}{k:List Value}{z:Value}{inf:TypeInfo}{h:Zf}{K:Option Value->Prop}(hu:P.underlying t=some (.map kt et))(j:Zqb P kt d i)(hl:ZaF i k)
    (c:P.info? et=some inf) (l:inf.zero=some z) (g:ZbA i h m k K):
    ∃r:Option Value,(∀(ok:Bool) (w:World),w.heap=h->(Instr.lookup t (.map m) (.agg k.toArray) ok).run P w= .ok (if ok then .tuple #[r.getD z,.bool r.isSome]else r.getD z) w)/\K r:=by
  have hz:∀w:World,(zeroValue et).run P w= .ok z w:=λw=>Zam P w et c l;have f:∀(w:World) (e:Bool),(Instr.checkKey e 10000 kt (.agg k.toArray)).run P w= .ok () w:=λw e=>j.chk hl e 9998 w
  cases m with
  | none=>
    refine⟨none,λok w hw=>?_,g.1 rfl⟩;unfold Instr.lookup;have a:(Instr.findKey kt (.agg k.toArray) []).run P w= .ok none w:=ZjS j hl [] (λx o=>by cases o);simp only[Awk,Zl P w t hu,Awl,Awp,f,a,hz];rfl
  | some b=>
    obtain⟨es,cl,p,n,g⟩:=g.2 b rfl;refine⟨_,λok w hw=>?_,g⟩;subst hw;unfold Instr.lookup;have a:=ZjS (P:=P) (w:=w) j hl es.toList n;simp only[Awk,Zl P w t hu,Awl,MapKept.run_getObj_map p,Awp,f,a]
    cases ZhE k es.toList 0 with
    |none=>simp only[Awk,hz,Awl];rfl
    |some x=>rfl
theorem Znv{P:Program}{t kt et:TypeId}{d:TypeDesc}{e:List TypeDesc}{m:Option Nat}{k:List Value}{v:Value}{w:World}{K:Zf->Prop}(hu:P.underlying t=some (.map kt et))(q:Zqb P kt d e)(hl:ZaF e k)
    (f:Zh7 e w.heap m k v K):∃w',(Instr.mapUpdate t (.map m) (.agg k.toArray) v).run P w= .ok () w'/\Same w w'/\K w'.heap:=by
  obtain⟨b,es,cl,rfl,g,a,f⟩:=f;refine⟨{w with heap:=w.heap.setIfInBounds b (ZIA es cl (.agg k.toArray) v (ZhE k es.toList 0))},?_,⟨rfl,rfl,rfl⟩,f⟩;unfold Instr.mapUpdate;have h:(Instr.checkKey false 10000 kt (.agg k.toArray)).run P w= .ok () w:=q.chk hl false 9998 w;have i:=ZjS (P:=P) (w:=w) q hl es.toList a;simp only[Awk,Zl P w t hu,Awl,MapKept.run_getObj_map g,h,i]
  cases l:ZhE k es.toList 0 with
  |none=>exact MapKept.run_setObj_map _ g
  | some y=>
    obtain⟨j,u⟩:=y;obtain⟨m,r,h1,s,h3,x⟩:=ZiC l;rw[Awb]at h1;subst h1;have n:es[j]?=some r:=by simpa using s
    obtain⟨cs,c,o⟩:=a r (Axo s);have heq:k=cs:=ZkR 0 hl o (by rw[c]at x;simpa[ZmA]using x)
    have p:(Instr.keyThatStays (((es[j]?).map (·.key)).getD (.agg k.toArray)) (.agg k.toArray)).run P w= .ok (.agg k.toArray) w:=by
      rw[n];simp only[Aqx,Axm,c,<-heq];unfold Instr.keyThatStays;rw[if_pos (ZqE hl)];rfl
    simp only[Awk,p,Awl];exact MapKept.run_setObj_map _ g
theorem Zto{P:Program}{t kt et:TypeId}{d:TypeDesc}{m:Option Nat}{k z:Value}{inf:TypeInfo}{h:Zf}{K:Option Value->Prop}(hu:P.underlying t=some (.map kt et))(hd:P.underlying kt=some d)
    (b:P.info? et=some inf) (e:inf.zero=some z) (c:ZtB P kt d h m k K):
    ∃r:Option Value,(∀(ok:Bool) (w:World),w.heap=h->(Instr.lookup t (.map m) k ok).run P w= .ok (if ok then .tuple #[r.getD z,.bool r.isSome]else r.getD z) w)/\K r:=by
  unfold ZtB at c;split at c
  ·obtain⟨a,c⟩:=Zgy c;obtain⟨hs,f,hl⟩:=ZpR a;exact Znw (k:=_) hu (ZyY hd hs f) hl b e c
  ·obtain⟨a,g⟩:=Zgy c;obtain⟨rfl,f,hi,hl⟩:=ZpS a;exact Znw (k:=_) hu (ZyZ hd f hi) hl b e g
  ·obtain⟨a,c⟩:=Zgy c;exact ZvQ hu hd a b e c
theorem Znu{P:Program}{t kt et:TypeId}{d:TypeDesc}{m:Option Nat}{k v:Value}{w:World}{K:Zf->Prop}(hu:P.underlying t=some (.map kt et))(hd:P.underlying kt=some d)
    (b:ZqU P kt d w.heap m k v K):∃w',(Instr.mapUpdate t (.map m) k v).run P w= .ok () w'/\Same w w'/\K w'.heap:=by
  unfold ZqU at b;split at b
  ·obtain⟨a,b⟩:=Zgy b;obtain⟨hs,c,hl⟩:=ZpR a;exact Znv (k:=_) hu (ZyY hd hs c) hl b
  ·obtain⟨a,e⟩:=Zgy b;obtain⟨rfl,c,hi,hl⟩:=ZpS a;exact Znv (k:=_) hu (ZyZ hd c hi) hl e
  ·obtain⟨a,b⟩:=Zgy b;exact ZvP hu hd a b
theorem ZvR{P:Program}{t kt et ty:TypeId}{d:TypeDesc}{m:Option Nat}{k:Value}{ts:Array TypeId}{w:World}{K:Zf->Prop}(g:ts[0]?=some t)(hu:P.underlying t=some (.map kt et))(hd:P.underlying kt=some d)(a:Zx7 d k=true)
    (c:ZnS d w.heap m k K):∃w',(Builtin.delete_ ts ty #[.map m,k]).run P w= .ok (.tuple #[]) w'/\Same w w'/\K w'.heap:=by
  cases m with
  | none=>
    refine⟨w,?_,Same.refl w,c.1 rfl⟩;unfold Builtin.delete_;simp only[g,Axf,Axg,Axh,Awk,Zl P w t hu,Awl,MapKept.run_checkKey hd (Zk8 a)];rfl
  | some b=>
    obtain⟨es,cl,r,e,f,c⟩:=c.2 b rfl;refine⟨{w with heap:=w.heap.setIfInBounds b (ZPR es cl r)},?_,⟨rfl,rfl,rfl⟩,c⟩;unfold Builtin.delete_;have h:(Instr.findKey kt k es.toList).run P w= .ok r w:=MapKept.run_findKey hd f;simp only[g,Axf,Axg,Axh,Awk,Zl P w t hu,Awl,MapKept.run_getObj_map e,MapKept.run_checkKey hd (Zk8 a),h]
    cases r with
    |none=>simp only[Awk,MapKept.run_setObj_map _ e,Awl];rfl
    |some x=>simp only[Awk,MapKept.run_setObj_map _ e,Awl];rfl
theorem ZvT{P:Program}{t kt et ty:TypeId}{m:Option Nat}{ts:Array TypeId}{w:World}{K:Zf->Prop}(c:ts[0]?=some t)(hu:P.underlying t=some (.map kt et))
    (a:ZPS w.heap m K):∃w',(Builtin.clear_ ts ty #[.map m]).run P w= .ok (.tuple #[]) w'/\Same w w'/\K w'.heap:=by
  cases m with
  | none=>
    refine⟨w,?_,Same.refl w,a.1 rfl⟩;unfold Builtin.clear_;simp only[c,Axf,Axg,Awk,Zl P w t hu,Awl];rfl
  | some b=>
    obtain⟨es,cl,d,a⟩:=a.2 b rfl;refine⟨{w with heap:=w.heap.setIfInBounds b (.map #[] cl)},?_,⟨rfl,rfl,rfl⟩,a⟩;unfold Builtin.clear_;simp only[c,Axf,Axg,Awk,Zl P w t hu,Awl,MapKept.run_getObj_map d,MapKept.run_setObj_map _ d];rfl
theorem ZvS{P:Program}{t el ty:TypeId}{q:Option Addr}{l m:Nat}{zs:List Value}{ts:Array TypeId}{w:World}{K:Zf->Prop}(c:ts[0]?=some t)(hu:P.underlying t=some (.slice el))(hz:ZmQ P el=some zs)
    (a:ZFB ⟨q,l,m⟩ zs w.heap K):∃w',(Builtin.clear_ ts ty #[.slice q l m]).run P w= .ok (.tuple #[]) w'/\Same w w'/\K w'.heap:=by
  rcases a with⟨h0,a⟩ |⟨h0,a⟩ |⟨b,o,g,h,j,a⟩
  ·dsimp only at h0;subst h0;refine⟨w,?_,Same.refl w,a⟩;unfold Builtin.clear_;simp only[c,Axf,Axg,Awk,Zl P w t hu,Awl];rfl
  ·dsimp only at h0;subst h0;refine⟨w,?_,Same.refl w,a⟩;unfold Builtin.clear_;simp only[c,Axf,Axg,Awk,Zl P w t hu,Awl];cases q<;>rfl
  ·dsimp only at g h j a;subst g;obtain⟨i,z,hi,d,rfl⟩:=ZeA hz
   cases l with
   | zero=>
     refine⟨w,?_,Same.refl w,?_⟩
     ·unfold Builtin.clear_;simp only[c,Axf,Axg,Awk,Zl P w t hu,Awl];rfl
     ·have e:XR z.cells.toList 0=[]:=rfl;rw[e]at a;exact a
   | succ l=>
     refine⟨{w with heap:=Zf.puts w.heap b o (XR z.cells.toList (l+1))},?_,⟨rfl,rfl,rfl⟩,a⟩;unfold Builtin.clear_;have f:=Zf6 P b o (XR z.cells.toList (l+1)) 0 w (by simpa using h) j;simp only[c,Axf,Axg,Awk,Zl P w t hu,Awl,Zam P w el hi d,ZmB,f];simp
theorem Zma{P:Program}{t:TypeId}{v:Value}{w:World}(h:Zi0 (P.underlying t)=false):(Instr.makeInterface t v).run P w= .ok (.iface t v) w:=by
  unfold Instr.makeInterface
  cases hu:P.underlying t with
  |none=>rw[hu]at h;cases h
  | some d=>
    rw[hu]at h;simp only[Awk,Zl P w t hu,Awl]
    cases d<;>first
      |rfl
      |cases h
theorem ZoT{P:Program}{t a:TypeId}{v:Value}{w:World}(h:Zi0 (P.underlying t)=false):(Instr.typeAssert (.iface t v) a t false).run P w= .ok v w:=by
  unfold Instr.typeAssert
  cases hu:P.underlying t with
  |none=>rw[hu]at h;cases h
  | some d=>
    rw[hu]at h;simp only[Awk,Zl P w t hu,Awl]
    cases d<;>first
      |(simp only[if_true];rfl)
      |cases h
theorem ZE7(hc:c.OK)(B:Agr c.n e a){cl:Call}{next:Act->World->Prop}{Q:Exit->Act->World->Prop}(ab:∀v w',Same w w'->c.pan v w'.heap->Q (.panic [{v,recovered:=false}]) a w')(g:Zo6 c (.call cl) e w.heap K)
    (R:∀v w',Same w w'->K v w'.heap->next (a.put dst v.v) w'):(⟨dst,.call cl,type,pos,after,guard⟩:Oper).wpIn (fen c.rnd) 0 c.P a w next Q:=by
  have V:=g;unfold Zo6 at g;split at g
  ·rename_i args ts ho;cases ho;exact(Zw8 B V).val.wp R
  ·rename_i args ts ho;cases ho;exact(YD B (.inr (.inl rfl)) V).val.wp R
  ·rename_i args ts ho;cases ho;exact(YD B (.inr (.inr (.inl rfl))) V).val.wp R
  ·rename_i args ts ho;cases ho;exact(YD B (.inr (.inr (.inr rfl))) V).val.wp R
  ·
   rename_i args ts ho;cases ho;split at g
   ·rename_i t O W;split at g
    ·rename_i el hu
     have Z:∀u,ts[1]?=some u->∃d,c.P.underlying u=some d/\∀k,d≠ .int k:=by
       intro u h1;simp only[h1]at W;split at W
       ·cases W
       ·rename_i d ar hd;exact⟨d,hd,λk g=>ar k g⟩
       ·cases W
     split at g
     ·rename_i size bytes zs p n m p' n' m' hs hz hv;have A:=ZdV B hv;obtain⟨i,z,hi,ae,rfl⟩:=ZeA hz;obtain⟨i',S,rfl,rfl⟩:=ZfK hs;rw[hi]at S;cases S
      have M:∃new,(∀w':World,w'.heap=w.heap->(Builtin.firstCells i.size n' (.slice p' n' m')).run c.P w'= .ok new.toArray w')/\app el i.size i.bytes z.cells.toList ⟨p,n,m⟩ n' new w.heap λs h'=>K (.val (.slice s.ptr s.len s.cap)) h':=by
        rcases g with⟨T,g⟩ |⟨b,o,l,T,hl,hh,g⟩
        ·refine⟨[],λw' _=>?_,g⟩;simp only at T;rw[T];cases p'<;>simp[Builtin.firstCells,loadCells,loadCellsFrom]
        ·refine⟨l,λw' hw=>?_,g⟩;simp only at T hl;rw[T];simp only[Builtin.firstCells];rw[<-hl];exact ZeM c.P w' b o l (by rw[hw];exact hh)
      obtain⟨new,M,g⟩:=M;obtain⟨s',w',X,I,g⟩:=Zpn (P:=c.P) (ts:=ts) (rt:=type) (s:=⟨p,n,m⟩) (x:=.slice p' n' m') O Z hu hi ae rfl M g;refine Val.wp (K:=K) ⟨.val (.slice s'.ptr s'.len s'.cap),w',?_,I,g⟩ R;refine Y1 (s:=Builtin.append_ ts type #[.slice p n m,.slice p' n' m']) (λty cs=>?_) X;rw[A];rfl
     ·rename_i size bytes zs p n m s hs hz hv;have A:=ZdV B hv;obtain⟨i,z,hi,ae,rfl⟩:=ZeA hz;obtain⟨i',S,rfl,rfl⟩:=ZfK hs;rw[hi]at S;cases S
      have M:∀w':World,w'.heap=w.heap->(Builtin.firstCells i.size s.size (.string s)).run c.P w'= .ok (ZfB s).toArray w':=by
        intro w' _;simp only[Builtin.firstCells,Awp];congr 1;apply Axd;simp[ZfB]
      obtain⟨s',w',X,I,g⟩:=Zpn (P:=c.P) (ts:=ts) (rt:=type) (s:=⟨p,n,m⟩) (x:=.string s) O Z hu hi ae rfl M g;refine Val.wp (K:=K) ⟨.val (.slice s'.ptr s'.len s'.cap),w',?_,I,g⟩ R;refine Y1 (s:=Builtin.append_ ts type #[.slice p n m,.string s]) (λty cs=>?_) X;rw[A];rfl
     ·exact g.elim
    ·exact g.elim
   ·exact g.elim
  ·
   rename_i x args ts ho;cases ho;split at g
   ·split at g
    ·rename_i v es hx hv;obtain⟨f,cs,s,t,ag,T,g⟩:=Zm7 g;have J:a.eval x=Value.func (.func f) #[] ⟨cs⟩:=(B.ev hx).trans ag
     have G:(args.map a.eval)++(⟨cs⟩:Array Value)=((Zzq es cs).map EV.v).toArray:=by
       rw[ZdV B hv];simp[Zzq,Function.comp_def,EV.v]
     obtain⟨H,O⟩:=ZjX T;dsimp only at H O;obtain⟨⟨fn,hf,D,E⟩,F⟩:=hc.calls _ H
     have C:(execOp a.eval ⟨dst,.call ⟨.value x,args,ts⟩,type,pos,after,guard⟩).run c.P w= .ok (.enter f ((args.map a.eval)++(⟨cs⟩:Array Value))) w:=by
       simp only[execOp,resolve,J,Deferred.ofValue,Awk,Awp,Awl,invoke,callFunc,run_program,hf,D,Aqc,if_false,E];simp
     refine Zqm C ?_;rw[G,<-Zh5 O];refine(F t _ _ w g).mono ?_;rintro ending w' (⟨r,rfl,j,g⟩ |⟨v,rfl,j,g⟩)
     ·exact R _ w' j g
     ·exact ab v w' j g
    ·exact g.elim
   split at g
   ·rename_i f cs hx;split at g
    ·rename_i es hv;have J:a.eval x=Value.func (.func f) #[] ⟨cs⟩:=B.ev hx
     have G:(args.map a.eval)++(⟨cs⟩:Array Value)=((Zzq es cs).map EV.v).toArray:=by
       rw[ZdV B hv];simp[Zzq,Function.comp_def,EV.v]
     split at g
     ·rename_i s t T;obtain⟨H,O⟩:=ZjX T;dsimp only at H O;obtain⟨⟨fn,hf,D,E⟩,F⟩:=hc.calls _ H
      have C:(execOp a.eval ⟨dst,.call ⟨.value x,args,ts⟩,type,pos,after,guard⟩).run c.P w= .ok (.enter f ((args.map a.eval)++(⟨cs⟩:Array Value))) w:=by
        simp only[execOp,resolve,J,Deferred.ofValue,Awk,Awp,Awl,invoke,callFunc,run_program,hf,D,Aqc,if_false,E];simp
      refine Zqm C ?_;rw[G,<-Zh5 O];refine(F t _ _ w g).mono ?_;rintro ending w' (⟨r,rfl,j,g⟩ |⟨v,rfl,j,g⟩)
      ·exact R _ w' j g
      ·exact ab v w' j g
     ·cases ah:ZB9 f c.ext with
      | false=>
        rw[ah]at g;simp only[cond_false]at g
        cases ai:ZB9 f c.adds with
        |false=>rw[ai]at g;exact g.elim
        | true=>
          rw[ai]at g;simp only[cond_true]at g;split at g
          ·rename_i y1 y2 y3 aj
           obtain⟨ay,g⟩:=g;have N:=hc.adds f (Zq4 ai) y1 y2 y3 w ay;refine Val.wp (K:=K) ⟨.val (.tuple _),w,?_,Same.refl w,g⟩ R;have L:(args.map a.eval)++(⟨cs⟩:Array Value)= #[.int .u64 y1,.int .u64 y2,.int .u64 y3]:=by rw[G,aj];rfl
           have U:(#[]++args.map a.eval)++(⟨cs⟩:Array Value)= #[.int .u64 y1,.int .u64 y2,.int .u64 y3]:=by rw[Array.empty_append];exact L
           simp only[execOp,resolve,J,Deferred.ofValue,Awk,Awp,Awl,invoke,U];simpa[EV.v]using N
          ·exact g.elim
      | true=>
        rw[ah]at g;simp only[cond_true]at g;split at g
        ·rename_i y aj
         obtain⟨t,b,az,cl,hy,hb,g⟩:=g;obtain⟨w',N,j,aA⟩:=hc.ext f (Zq4 ah) t b az cl w hb;refine Val.wp (K:=K) ⟨.val (.iface t (.map (some w.heap.size))),w',?_,j,by rw[aA];exact g⟩ R;have L:(args.map a.eval)++(⟨cs⟩:Array Value)= #[.iface t (.map (some b))]:=by rw[G,aj];simp[hy]
         have U:(#[]++args.map a.eval)++(⟨cs⟩:Array Value)= #[.iface t (.map (some b))]:=by rw[Array.empty_append];exact L
         simp only[execOp,resolve,J,Deferred.ofValue,Awk,Awp,Awl,invoke,U];simpa[EV.v]using N
        ·exact g.elim
    ·exact g.elim
   ·rename_i l hx;split at g
    ·rename_i es hv;have J:a.eval x=Value.func (.yield l) #[] #[]:=B.ev hx;obtain⟨fn,tmps,assign,body,N,Y⟩:=hc.yld l _ _ w g;refine ZAJ (l:=l) (f:=fn) (tmps:=tmps) (assign:=assign) (body:=body) (k:=λb w'=>Same w w'/\K (.val (.bool b)) w'.heap) ?_ Y λb w' h=>R _ w' h.1 h.2;have A:args.map a.eval=(es.map EV.v).toArray:=ZdV B hv;simp only[execOp,resolve,J,Deferred.ofValue,Awk,Awp,Awl,invoke,A];simpa using N
    ·exact g.elim
   ·exact g.elim
  ·
   rename_i args ts ho;cases ho;split at g
   ·rename_i t m k O hv;split at g
    ·rename_i kt et hu;split at g
     ·rename_i d hd;obtain⟨an,aB⟩:=Zgy g;clear g;have A:=ZdV B hv;obtain⟨w',X,I,g⟩:=ZvR (P:=c.P) (ts:=ts) (ty:=type) O hu hd an aB;refine Val.wp (K:=K) ⟨.val (.tuple #[]),w',?_,I,g⟩ R;refine Y1 (s:=Builtin.delete_ ts type #[.map m,k.v]) (λty cs=>?_) X;rw[A];rfl
     ·exact g.elim
    ·exact g.elim
   ·exact g.elim
  ·
   rename_i x name args ts ho;cases ho;split at g
   ·rename_i v es hx hv;obtain⟨t,f,p,y,H,ag,T,g⟩:=Zsq g;have hm:Zu6 c.P name t f:=hc.dyn _ H;obtain⟨aC,O⟩:=Zlz T;obtain⟨⟨fn,hf,D,E⟩,F⟩:=hc.calls _ aC;dsimp only at hf D E F;have J:a.eval x= .iface t (p.a0.ev y).v:=(B.ev hx).trans ag
    have G:(#[(p.a0.ev y).v]:Array Value)++(args.map a.eval)=((Xn.evs (p.a0::p.rest) (y,p.t)).map EV.v).toArray:=by
      rw[ZdV B hv];simp only[Xn.evs,Awo,Zh5 O];simp
    have C:(execOp a.eval ⟨dst,.call ⟨.invoke x name,args,ts⟩,type,pos,after,guard⟩).run c.P w= .ok (.enter f ((#[(p.a0.ev y).v]:Array Value)++(args.map a.eval))) w:=by
      have ao:((#[a.eval x]:Array Value)++args.map a.eval).extract 1 ((#[a.eval x]:Array Value)++args.map a.eval).size=args.map a.eval:=by
        apply Axd;simp only[Array.toList_extract,Array.toList_append,Array.size_append];simp;rw[Awd (by simp)]
      have h0:((#[a.eval x]:Array Value)++args.map a.eval)[0]?=some (a.eval x):=by rw[<-Axp,Array.toList_append];rfl
      simp only[execOp,resolve,Awk,Awp,Awl,invoke,h0,ao];rw[J];have aD:=hm (p.a0.ev y).v w;simp only[callMethod,Awk,run_program,Awl];rw[aD];simp only[callFunc,Awk,run_program,Awl,hf,D,Aqc,if_false,E,Awp]
    refine Zqm C ?_;rw[G];refine(F (y,p.t) _ _ w g).mono ?_;rintro ending w' (⟨r,rfl,j,g⟩ |⟨v,rfl,j,g⟩)
    ·exact R _ w' j g
    ·exact ab v w' j g
   ·exact g.elim
  ·
   rename_i args ts ho;cases ho;split at g
   ·rename_i t m O hv;split at g
    ·rename_i kt et hu;have A:=ZdV B hv;obtain⟨w',X,I,g⟩:=ZvT (P:=c.P) (ts:=ts) (ty:=type) O hu g;refine Val.wp (K:=K) ⟨.val (.tuple #[]),w',?_,I,g⟩ R;refine Y1 (s:=Builtin.clear_ ts type #[.map m]) (λty cs=>?_) X;rw[A];rfl
    ·exact g.elim
   ·rename_i t q l m O hv;split at g
    ·rename_i el hu;split at g
     ·rename_i zs hz;have A:=ZdV B hv;obtain⟨w',X,I,g⟩:=ZvS (P:=c.P) (ts:=ts) (ty:=type) O hu hz g;refine Val.wp (K:=K) ⟨.val (.tuple #[]),w',?_,I,g⟩ R;refine Y1 (s:=Builtin.clear_ ts type #[.slice q l m]) (λty cs=>?_) X;rw[A];rfl
     ·exact g.elim
    ·exact g.elim
   ·exact g.elim
  ·exact g.elim
theorem Zvr{P:Program}{t:TypeId}{z:Value}(h:ZDF P t=some z):∃i,P.info? t=some i/\i.zero=some z:=by
  unfold ZDF at h;split at h
  ·rename_i i hi;exact⟨i,hi,h⟩
  ·cases h
theorem ZvB(f:Agr c.n e a){t:TypeId}{x i:Operand}{ok:Bool}(b:opP c (.lookup t x i ok) e h K):ZtZ c ⟨dst,.lookup t x i ok,type,pos,after,guard⟩ a h K:=by
  simp only[opP]at b;split at b
  ·rename_i kt et m k hu o hi;split at b
   ·rename_i d z hd hz;obtain⟨inf,g,j⟩:=Zvr hz;obtain⟨r,p,b⟩:=Zto (P:=c.P) hu hd g j b;obtain⟨u,l,b⟩:=ZlV b;refine ZtZ.of (v:=bif ok then .val (.tuple #[u.v,.bool r.isSome])else u) (s:=Instr.lookup t (a.eval x) (a.eval i) ok) rfl (λw hw=>?_) b;rw[f.ev o,f.ev hi];have:=p ok w hw;rw[<-l]at this;cases ok<;>exact this
   ·exact b.elim
  ·exact b.elim
theorem Zr4(f:Agr c.n e a){t:TypeId}{m k x:Operand}{next:Act->World->Prop}{Q:Exit->Act->World->Prop}(b:opP c (.mapUpdate t m k x) e w.heap K)
    (i:∀v w',Same w w'->K v w'.heap->next (a.put dst v.v) w'):(⟨dst,.mapUpdate t m k x,type,pos,after,guard⟩:Oper).wpIn (fen c.rnd) 0 c.P a w next Q:=by
  simp only[opP]at b;split at b
  ·rename_i kt et o p q hu hm g j;split at b
   ·rename_i d hd;obtain⟨w',l,h,b⟩:=Znu (P:=c.P) hu hd b;refine Zql (w':=w') ?_ (i (.val undef) _ h b);refine ZD1 (s:=Instr.mapUpdate t (a.eval m) (a.eval k) (a.eval x)) ?_;rw[f.ev hm,f.ev g,f.ev j];exact l
   ·exact b.elim
  ·exact b.elim
theorem Zyh(f:Agr c.n e a){t:TypeId}{m k x:Operand}{next:Act->World->Prop}{Q:Exit->Act->World->Prop}(b:opP c (.insert t m k x) e w.heap K)
    (i:∀v w',Same w w'->K v w'.heap->next (a.put dst v.v) w'):(⟨dst,.insert t m k x,type,pos,after,guard⟩:Oper).wpIn (fen c.rnd) 0 c.P a w next Q:=by
  simp only[opP]at b;split at b
  ·rename_i kt et o p q hu hm g j;split at b
   ·rename_i d hd;obtain⟨w',l,h,b⟩:=Znu (P:=c.P) hu hd b;refine Zql (w':=w') ?_ (i (.val undef) _ h b);refine ZD1 (s:=Instr.mapUpdate t (a.eval m) (a.eval k) (a.eval x)) ?_;rw[f.ev hm,f.ev g,f.ev j];exact l
   ·exact b.elim
  ·exact b.elim
theorem Zl3(d:Agr c.n e a){t:TypeId}{x:Operand}(b:opP c (.makeInterface t x) e h K):ZfC c ⟨dst,.makeInterface t x,type,pos,after,guard⟩ a h K:=by
  simp only[opP]at b;split at b
  ·rename_i v hv
   cases f:Zi0 (c.P.underlying t)with
   |true=>rw[f]at b;exact b.elim
   | false=>
     rw[f]at b;refine ZfC.of (v:=.val (.iface t v.v)) (s:=Instr.makeInterface t (a.eval x)) rfl (λw _=>?_) b;rw[d.ev hv];exact Zma f
  ·exact b.elim
theorem ZjL(d:Agr c.n e a){f:Fn}{first caps:Array Operand}(b:opP c (.makeFunc f first caps) e h K):ZfC c ⟨dst,.makeFunc f first caps,type,pos,after,guard⟩ a h K:=by
  cases f with
  | func g=>
    simp only[opP]at b;split at b
    ·rename_i es i hv
     refine ZfC.of (v:=.val (.func (.func g) ⟨[]⟩ ⟨es.map EV.v⟩)) (s:=Instr.makeFunc (.func g) (first.map a.eval) (caps.map a.eval)) rfl (λw _=>?_) b;have h1:first= #[]:=by apply Axd;exact i
     rw[ZdV d hv,h1];simp[Instr.makeFunc,EV.v]
    ·exact b.elim
  |_=>simp[opP]at b
theorem Znt{P:Program}{t a:TypeId}{v:Value}{w:World}(h:Zi0 (P.underlying t)=false):(Instr.typeAssert (.iface t v) a t true).run P w= .ok (.tuple #[v,.bool true]) w:=by
  unfold Instr.typeAssert
  cases hu:P.underlying t with
  |none=>rw[hu]at h;cases h
  | some d=>
    rw[hu]at h;simp only[Awk,Zl P w t hu,Awl]
    cases d<;>first
      |(simp only[if_true];rfl)
      |cases h
theorem ZoP(d:Agr c.n e a){t f:TypeId}{x:Operand}{ok:Bool}(b:opP c (.typeAssert x f t ok) e h K):ZfC c ⟨dst,.typeAssert x f t ok,type,pos,after,guard⟩ a h K:=by
  simp only[opP]at b;split at b
  ·rename_i v hv
   cases g:Zi0 (c.P.underlying t)with
   |true=>rw[g]at b;exact b.elim
   | false =>
     rw[g]at b
     cases ok with
     | false=>
       obtain⟨y,k,b⟩:=b;obtain⟨u,i,b⟩:=Zov b;refine ZfC.of (v:=u) (s:=Instr.typeAssert (a.eval x) f t false) rfl (λw _=>?_) b;rw[d.ev hv,k,i];exact ZoT g
     | true =>
       simp only[cond_false,cond_true]at b;split at b
       ·rename_i t' u
        cases j:Nat.beq t' t with
        |false=>rw[j]at b;exact b.elim
        | true=>
          rw[j]at b;have:=Awg j;subst this;refine ZfC.of (v:=.val (.tuple #[u,.bool true])) (s:=Instr.typeAssert (a.eval x) f t' true) rfl (λw _=>?_) b;rw[d.ev hv];exact Znt g
       ·exact b.elim
  ·exact b.elim
theorem Zw7(f:Agr c.n e a){t:TypeId}{x:Operand}(d:opP c (.range t x) e w.heap K):Val c ⟨dst,.range t x,type,pos,after,guard⟩ a w K:=by
  simp only[opP]at d;split at d
  ·rename_i kt et m hu g
   cases m with
   | none=>
     refine Val.of (v:=.itr t w.heap.size) (w':=w.alloc (.mapIter none 0 #[] 0)) (s:=Instr.range t (a.eval x)) rfl ?_ ⟨rfl,rfl,rfl⟩ (d.1 rfl);rw[f.ev g];exact run_range_nilMap w t _ _ hu
   | some b=>
     obtain⟨es,cl,h,d⟩:=d.2 b rfl;refine Val.of (v:=.itr t w.heap.size) (w':=w.alloc (.mapIter (some b) cl #[] cl)) (s:=Instr.range t (a.eval x)) rfl ?_ ⟨rfl,rfl,rfl⟩ d;rw[f.ev g];exact run_range_map w t _ _ b es cl hu h
  ·exact d.elim
theorem ZAM(j:Agr c.n e a){x:Operand}{q:Bool}(f:opP c (.next x q) e w.heap K):Val c ⟨dst,.next x q,type,pos,after,guard⟩ a w K:=by
  cases q with
  |true=>exact f.elim
  | false=>
    simp only[opP]at f;split at f
    ·rename_i t b p;have g:a.eval x= .pointer (some ⟨b,0,none⟩):=j.ev p
     rcases f with⟨s,seen,z,k,f⟩ |⟨o,since,seen,c0,es,clock,r,k,hold,l,u,hT⟩
     ·refine Val.of (v:=.over) (w':=w) (s:=Instr.next (a.eval x) false type) rfl ?_ (Same.refl w) f;rw[g];simp[Instr.next,getObj,Sem.run,k,Result.andThen,EV.v]
     ·rcases run_next_at (P:=c.P) w type b o since c0 seen es clock r k hold l with⟨h0,d⟩ |⟨en,m,w1,i,d⟩
      ·refine Val.of (v:=.over) (w':=w) (s:=Instr.next (a.eval x) false type) rfl ?_ (Same.refl w) (u h0);rw[g];exact d
      ·have y:w1.heap=w.heap:=by rcases i with rfl|rfl<;>rfl
       have h:Same w w1:=by rcases i with rfl|rfl<;>exact⟨rfl,rfl,rfl⟩
       refine Val.of (v:=.more en.key en.val) (w':=ChangeMaps.setBlock w1 b (.mapIter (some o) since (seen.push en.born) clock)) (s:=Instr.next (a.eval x) false type) rfl ?_ ⟨h.1,h.2.1,h.2.2⟩ ?_
       ·rw[g];exact d
       ·have:=hT en m;rw[<-y]at this;exact this
    ·exact f.elim
theorem Zw9(f:Agr c.n e a){x:Operand}(d:opP c (.entry x) e h K):ZtZ c ⟨dst,.entry x,type,pos,after,guard⟩ a h K:=by
  simp only[opP]at d;split at d
  ·rename_i t b m;have g:a.eval x= .pointer (some ⟨b,0,none⟩):=f.ev m;split at d
   ·rename_i kt et hu;obtain⟨o,since,seen,es,clock,en,p,q,i,j,d⟩:=d;obtain⟨r,k,d⟩:=ZlV d;obtain⟨u,l,d⟩:=ZlV d;refine ZtZ.of (v:=.val (.tuple #[r.v,u.v])) (s:=Instr.entry (a.eval x)) rfl (λw hw=>?_) d;subst hw;rw[g,k,l];exact run_entry_at (P:=c.P) w b o since seen es clock en p q i j
   ·exact d.elim
  ·exact d.elim
theorem ZAP(f:Agr c.n e a){t:TypeId}{x y:Operand}{next:Act->World->Prop}{Q:Exit->Act->World->Prop}(d:opP c (.store t x y) e w.heap K)
    (g:∀v w',Same w w'->K v w'.heap->next (a.put dst v.v) w'):(⟨dst,.store t x y,type,pos,after,guard⟩:Oper).wpIn (fen c.rnd) 0 c.P a w next Q:=by
  simp only[opP]at d;split at d
  ·rename_i u v hu hv;obtain⟨b,o,h,d⟩:=Zju d;obtain⟨h',i,d⟩:=ZAQ d;refine Zql (w':={w with heap:=h'}) ?_ (g (.val undef) _ ⟨rfl,rfl,rfl⟩ d);refine ZD1 (s:=Instr.storeAt t (a.eval x) (a.eval y)) ?_;rw[f.ev hu,f.ev hv,h];exact Ztn i
  ·exact d.elim
theorem Zuv(j:c.OK)(b:Agr c.n e a){o:Oper}{next:Act->World->Prop}{Q:Exit->Act->World->Prop}(g:∀v w',Same w w'->c.pan v w'.heap->Q (.panic [{v,recovered:=false}]) a w')(d:opP c o.op e w.heap K)
    (f:∀v w',Same w w'->K v w'.heap->next (a.put o.dst v.v) w'):o.wpIn (fen c.rnd) 0 c.P a w next Q:=by
  obtain⟨dst,op,type,pos,after,guard⟩:=o;cases op
  case panic x=>
    have d:(match e.ev x with|some (.val (.iface t v))=>c.pan (.iface t v) w.heap|_=>False):=d;split at d
    ·rename_i t v k;refine ZAK (λ_ h=>by cases h) (v:=.iface t v) ?_ (g _ w (Same.refl w) d);have i:a.eval x= .iface t v:=b.ev k;simp only[execOp,i,Instr.panic,Awk];rfl
    ·exact d.elim
  case move=>exact(Zqq b d).val.wp f
  case assign=>exact(Zl4 b d).val.wp f
  case pick=>exact(Zqp b d).val.wp f
  case alloc=>exact(Zxa d).wp f
  case box=>exact(ZDR b d).wp f
  case build=>exact(Znj b d).val.wp f
  case buildSlice=>exact(ZoQ b d).wp f
  case load=>exact(Zqs b d).val.wp f
  case store=>exact ZAP b d f
  case nilCheck=>exact(ZjK b d).val.wp f
  case binOp=>exact(Znk b d).val.wp f
  case unOp=>exact(Zqo b d).val.wp f
  case convert=>exact(Ztj b d).wp f
  case makeSlice=>exact(Zqr b d).wp f
  case slice=>exact(Zng b d).val.wp f
  case fieldAddr=>exact(ZiI b d).val.wp f
  case field=>exact(Zni b d).val.wp f
  case indexAddr=>exact(ZiH b d).val.wp f
  case index=>exact(Znh b d).val.wp f
  case extract=>exact(ZkY b d).val.wp f
  case call=>exact ZE7 j b g d f
  case makeMap t r=>
    cases r with
    |some x=>exact d.elim
    |none=>exact(Val.of (v:=.val (.map (some w.heap.size))) (w':={w with heap:=w.heap.push (.map #[] 0)}) (s:=Instr.makeMap t none) rfl rfl ⟨rfl,rfl,rfl⟩ d).wp f
  case lookup=>exact(ZvB b d).val.wp f
  case mapUpdate=>exact Zr4 b d f
  case insert=>exact Zyh b d f
  case range=>exact(Zw7 b d).wp f
  case next=>exact(ZAM b d).wp f
  case entry=>exact(Zw9 b d).val.wp f
  case makeInterface=>exact(Zl3 b d).val.wp f
  case makeFunc=>exact(ZjL b d).val.wp f
  case typeAssert=>exact(ZoP b d).val.wp f
  all_goals exact d.elim
theorem ZG3(h:c.OK)(d:Agr c.n e a){o:Oper}{next:Act->World->Prop}{Q:Exit->Act->World->Prop}(f:∀v w',Same w w'->c.pan v w'.heap->Q (.panic [{v,recovered:=false}]) a w')(b:opQ c o e w.heap K)
    (g:∀v w',Same w w'->K v w'.heap->next (a.put o.dst v.v) w'):o.wpIn (fen c.rnd) 0 c.P a w next Q:=by
  obtain⟨dst,op,type,pos,after,guard⟩:=o;cases op
  case assign x=>
    have b:(bif Zyc (c.P.underlying type)then(match e.ev x with
      |some v=>K v w.heap
      |none=>False)else opP c (.assign x) e w.heap K):=b
    cases i:Zyc (c.P.underlying type)with
    | false=>
      rw[i]at b;exact Zuv h d (o:=⟨dst,.assign x,type,pos,after,guard⟩) f b g
    | true=>
      rw[i]at b;simp only[cond_true]at b;split at b
      ·rename_i v hv;have j:ZfC c ⟨dst,.assign x,type,pos,after,guard⟩ a w.heap K:=⟨v,λw hw=>by simp[execOp,d.ev hv],b⟩;exact j.val.wp g
      ·exact b.elim
  all_goals exact Zuv h d (o:=⟨dst,_,type,pos,after,guard⟩) f b g
end
abbrev ZlZ:=List (Nat×(World->Prop))
def ZlZ.all(L:ZlZ)(w:World):Prop:=∀p,p∈L->p.2 w
def ZlZ.waits(ops:Array Oper)(j i:Nat):Prop:=∃o,ops[j]?=some o/\∃e∈o.after,Region.binds .any e=true/\e.on=i
def Zhi(ops:Array Oper):Prop:=∀(j:Nat) (o:Oper),ops[j]?=some o->∀c,o.op≠ .defer c
theorem Zv0{ops:Array Oper}(h:ZlF ops.toList=true):Zhi ops:=by
  have key:∀(l:List Oper),ZlF l=true->∀(j:Nat) (o:Oper),l[j]?=some o->∀c,o.op≠ .defer c:=by
    intro l
    induction l with
    |nil=>intro _ j o ho;simp at ho
    | cons x xs b=>
      intro h j o ho c a;simp only[ZlF]at h
      cases hd:Zyf x.op with
      |true=>rw[hd]at h;cases h
      | false=>
        rw[hd]at h
        cases j with
        |zero=>simp at ho;subst ho;rw[a]at hd;cases hd
        |succ j=>exact b h j o (by simpa using ho) c a
  intro j o ho;exact key _ h j o (by simpa using ho)
def wpK(rn:Option Nat)(P:Program)(ops:Array Oper)(Q:Exit->Act->World->Prop)(nx:ZlZ->Nat->ZlZ):ZlZ->Nat->Array Bool->Act->World->Prop
  |_,0,b,a,w=>Region.ready .any ops b=[]/\Q .normal a w
  | L,fuel+1,b,a,w=>
    (Region.ready .any ops b=[]->Q .normal a w)/\
    ∀i∈Region.ready .any ops b,wpOpIn (fen rn) 0 P ops Q i (λa' w'=>(nx L i).all w'/\wpK rn P ops Q nx (nx L i) fuel (b.setIfInBounds i true) a' w') a w
theorem ZhL{rn:Option Nat}{P:Program}{ops:Array Oper}{Q:Exit->Act->World->Prop}{S:World->Prop}{i:Nat}{o:Oper}{v:Value}{a:Act}(b:Zhi ops)(hi:ops[i]?=some o)(c:YieldsIf P ops S o v a)
    {K:Act->World->Prop} {w:World} (d:S w) (h:K (a.put o.dst v) w):wpOpIn (fen rn) 0 P ops Q i K a w:=by
  unfold Go.wpOpIn;simp only[hi]
  rcases c with⟨hw,hv⟩ |⟨hw,rfl⟩
  ·simp only[hw,if_true];exact ZBO (hv w d) h
  ·simp only[hw,Aqc,if_false];exact⟨λ_ _=>trivial,h⟩
theorem Zti{rn:Option Nat}{P:Program}{ops:Array Oper}{Q:Exit->Act->World->Prop}{S:World->Prop}(q:Zhi ops){j:Nat}{g i:Oper}{v:Value}(A:ops[j]?=some i)(s:g.apart ops i=true)
    (t:∀cs b,g.op≠ .select cs b) (y:∀cs b,i.op≠ .select cs b)
    (z:∀c a w,Q (.panic c) (a.put g.dst v) w->Q (.panic c) a w) {K:Act->World->Prop} {a:Act} {w:World}
    (k:YieldsIf P ops S g v a) (h:wpOpIn (fen rn) 0 P ops Q j K (a.put g.dst v) w):
    wpOpIn (fen rn) 0 P ops Q j (λa' w'=>YieldsIf P ops S g v a'/\K (a'.put g.dst v) w') a w:=by
  obtain⟨h1,n,h3⟩:=Oper.apart_spec s
  have keep:∀(a:Act),YieldsIf P ops S g v a->∀u,YieldsIf P ops S g v (a.put i.dst u):=λa k u=>
    k.of_same (execOp_put g t a i.dst u h3) (wanted_put g a i.dst u h3)
  have o:∀d,YieldsIf P ops S g v {a with defers:=d::a.defers}:=λd=>k.of_same rfl rfl;have m:=q j i A;unfold wpOpIn at *;simp only[A]at *;rw[wanted_put i a g.dst v h1]at h;split
  ·rename_i hw;simp only[hw,if_true]at h;unfold Oper.wpIn at *;refine⟨λ_ _=>trivial,?_⟩;have h:=h.2;rw[Oper.semAt_eq _ _ _ m,execOp_put i y a g.dst v h1]at h;rw[Oper.semAt_eq _ _ _ m];generalize (execOp a.eval i).run P w=r at *
   cases r with
   | ok x w'=>
     cases x<;>simp only[Oper.uponIn]at h⊢
     case value u=>exact⟨keep a k u,by rw[<-Act.put_comm a v u n];exact h⟩
     case skip=>exact⟨keep a k _,by rw[<-Act.put_comm a v undef n];exact h⟩
     case defer d=>
       refine⟨keep _ (o d) _,?_⟩;rw[<-Act.put_comm _ v undef n,<-Act.put_defers];exact h
     case enter f args=>
       refine⟨h.1,CallsIn.mono h.2 λe p he=>?_⟩
       cases e with
       |returned u=>exact⟨keep a k u,by rw[<-Act.put_comm a v u n];exact he⟩
       |panicked c=>exact z _ _ _ he
       |outgrown=>exact he
     case row row args=>exact⟨h.1,RowsIn.mono h.2 λu p he=>⟨keep a k u,by rw[<-Act.put_comm a v u n];exact he⟩⟩
     case round l f tmps assign body=>
       refine⟨h.1,RoundIn.mono h.2 λe p he=>?_⟩
       cases e with
       |returned u=>exact⟨keep a k u,by rw[<-Act.put_comm a v u n];exact he⟩
       |panicked c=>exact z _ _ _ he
       |outgrown=>exact he
   | halt x w'=>
     cases x<;>simp only[Oper.uponIn]at h⊢
     case panic u=>exact z _ _ _ h
  ·rename_i hw;simp only[hw]at h;exact⟨λ_ _=>trivial,keep a k _,by rw[<-Act.put_comm a v undef n];exact h.2⟩
section
variable{rn:Option Nat}{P:Program}{ops:Array Oper}{Q:Exit->Act->World->Prop}{nx:ZlZ->Nat->ZlZ}
theorem Zw5:∀(fuel:Nat) (L:ZlZ) (b:Array Bool) (a:Act) (w:World),wpK rn P ops Q nx L fuel b a w->wpAnyIn (fen rn) 0 P .any ops Q fuel b a w
  | 0,_,_,_,_,h=>h
  |fuel+1,_,_,_,_,h=>⟨h.1,λi hi=>wpOpIn_mono (λa' w' h'=>Zw5 fuel _ _ a' w' h'.2) (h.2 i hi)⟩
structure Next(ops:Array Oper)(nx:ZlZ->Nat->ZlZ):Prop where
  mem:∀L j p,p∈nx L j->p∈L
  keep:∀L j p,p∈L->¬ZlZ.waits ops j p.1->p∈nx L j
  same:∀L L' j p,p∈nx L' j->p∈L->p∈nx L j
theorem ZiG(f:Next ops nx):∀(fuel:Nat) (L c:ZlZ) (b:Array Bool) (a:Act) (w:World),(∀p,p∈c->p∈L\/∀w,p.2 w)->
    wpK rn P ops Q nx L fuel b a w->wpK rn P ops Q nx c fuel b a w
  | 0,_,_,_,_,_,_,h=>h
  | fuel+1,L,c,_,_,_,hs,h=>⟨h.1,λi hi=>wpOpIn_mono (λa' w' h'=>by
      have d:∀p,p∈nx c i->p∈nx L i\/∀w,p.2 w:=λp e=>(hs p (f.mem _ _ _ e)).imp (f.same L c i p e) id
      exact⟨λp e=>(d p e).elim (h'.1 p) (λh=>h w'),ZiG f fuel _ _ _ _ _ d h'.2⟩) (h.2 i hi)⟩
theorem Zw4(y:Zhi ops)(n:Next ops nx){i:Nat}{z:Oper}{v:Value}{S:World->Prop}(hi:ops[i]?=some z)(s:∀(j:Nat) (o:Oper) cs b,ops[j]?=some o->o.op≠ .select cs b)
    (W:∀c a w,Q (.panic c) (a.put z.dst v) w->Q (.panic c) a w):
    ∀ (fuel:Nat) (L:ZlZ) (d:Array Bool) (a:Act) (w:World),
      (∀j A,ops[j]?=some A->j≠i->d.getD j true=false->(∀e∈A.after,Region.binds .any e=true->e.on≠i)->z.apart ops A=true)->
      i∈Region.ready .any ops d->YieldsIf P ops S z v a->S w->ZlZ.all L w->
      wpK rn P ops Q nx ((i,S)::L) fuel (d.setIfInBounds i true) (a.put z.dst v) w->wpK rn P ops Q nx L (fuel+1) d a w:=by
  intro fuel
  induction fuel with
  | zero=>
    intro L d a w _ B J M N H;refine⟨λh=>(by rw[h]at B;cases B),λj K=>?_⟩
    by_cases f:j=i
    ·subst f;exact ZhL y hi J M ⟨λp g=>N p (n.mem _ _ _ g),H⟩
    ·have:=ready_mono K f;rw[H.1]at this;cases this
  | succ fuel X=>
    intro L d a w l B J M N H;refine⟨λh=>(by rw[h]at B;cases B),λj K=>?_⟩
    by_cases f:j=i
    ·subst f;exact ZhL y hi J M ⟨λp g=>N p (n.mem _ _ _ g),ZiG n _ _ _ _ _ _ (λp g=>.inl (.tail _ (n.mem _ _ _ g))) H⟩
    ·have h1:=H.2 j (ready_mono K f);obtain⟨t,A,q,D⟩:=mem_ready.1 K
     have u:∀e∈A.after,Region.binds .any e=true->e.on≠i:=λe he O heq=>by
       have h1:=D e he O;have h0:=(mem_ready.1 B).1;rw[heq]at h1
       rcases Aqd i d.size with h'|h'
       ·simp[h']at h0 h1;rw[h0]at h1;cases h1
       ·simp[Aqe h']at h1
     have Y:=Zti y q (l j A q f t u) (λcs b=>s i z cs b hi) (λcs b=>s j A cs b q) W J h1
     have r:∀k ok,ops[k]?=some ok->k≠i->(d.setIfInBounds j true).getD k true=false->
         (∀e∈ok.after,Region.binds .any e=true->e.on≠i)->z.apart ops ok=true:=λk ok Z R E T=>by
       refine l k ok Z R ?_ T
       by_cases F:j=k
       ·subst F;exact t
       ·rw[getD_set_ne true F]at E;exact E
     have x:((i,S):Nat×(World->Prop))∈nx ((i,S)::L) j:=by
       refine n.keep _ _ _ (.head _) ?_;rintro⟨o',G,e,he,O,U⟩;rw[q]at G;cases G;exact u e he O U
     refine wpOpIn_mono (λa' w' h3=>?_) Y;obtain⟨V,m,C⟩:=h3;have I:ZlZ.all (nx L j) w':=λp g=>m p (n.same _ _ _ _ g (.tail _ (n.mem _ _ _ g)));refine⟨I,X (nx L j) (d.setIfInBounds j true) a' w' r (ready_mono B (Ne.symm f)) V (m _ x) I ?_⟩;rw[Array.setIfInBounds_comm _ _ f];refine ZiG n _ _ _ _ _ _ (λp g=>.inl ?_) C
     rcases Awr.1 g with rfl|g
     ·exact x
     ·exact n.same _ _ _ _ g (.tail _ (n.mem _ _ _ g))
theorem Zua{i:Nat}{fuel:Nat}{L:ZlZ}{b:Array Bool}{a:Act}{w:World}(c:∀j,j∈Region.ready .any ops b->j=i)(hm:i∈Region.ready .any ops b)
    (h:wpOpIn (fen rn) 0 P ops Q i (λa' w'=>(nx L i).all w'/\wpK rn P ops Q nx (nx L i) fuel (b.setIfInBounds i true) a' w') a w):wpK rn P ops Q nx L (fuel+1) b a w:=
  ⟨λh0=>(by rw[h0]at hm;cases hm),λj d=>(c j d)▸h⟩
theorem ZDQ{i j:Nat}{fuel:Nat}{L:ZlZ}{b:Array Bool}{a:Act}{w:World}(c:∀k,k∈Region.ready .any ops b->k=i\/k=j)(hm:i∈Region.ready .any ops b)
    (h1:wpOpIn (fen rn) 0 P ops Q i (λa' w'=>(nx L i).all w'/\wpK rn P ops Q nx (nx L i) fuel (b.setIfInBounds i true) a' w') a w)
    (d:wpOpIn (fen rn) 0 P ops Q j (λa' w'=>(nx L j).all w'/\wpK rn P ops Q nx (nx L j) fuel (b.setIfInBounds j true) a' w') a w):wpK rn P ops Q nx L (fuel+1) b a w:=
  ⟨λh0=>(by rw[h0]at hm;cases hm),λk f=>(c k f).elim (λe=>e▸h1) (λe=>e▸d)⟩
theorem ZAL{L:ZlZ}{b:Array Bool}{a:Act}{w:World}(c:Region.ready .any ops b=[])(h:Q .normal a w):
    ∀fuel,wpK rn P ops Q nx L fuel b a w
  | 0=>⟨c,h⟩
  |_+1=>⟨λ_=>h,by rw[c];simp⟩
end
theorem ZtT(m i:Nat):Ziq m i=m.testBit i:=by
  unfold Ziq Nat.testBit;have:Nat.land (Nat.shiftRight m i) 1=1 &&& (m >>> i):=by rw[Nat.and_comm];rfl
  rw[this];have a:(1 &&& (m >>> i))<2:=by rw[Nat.and_comm,Nat.and_one_is_mod];omega
  generalize (1 &&& (m >>> i))=x at a;have:x=0\/x=1:=by omega
  rcases this with rfl|rfl<;>rfl
theorem Zrj(m i j:Nat):Ziq (ZqB m i) j=(Ziq m j||decide (j=i)):=by
  rw[ZtT,ZtT]
  have:ZqB m i=m|||(1<<< i):=rfl
  rw[this,Nat.testBit_or,Nat.one_shiftLeft,Nat.testBit_two_pow];congr 1;exact decide_eq_decide.2 ⟨λh=>h.symm,λh=>h.symm⟩
theorem Zg9{m:Nat}:∀{es:List Edge},ZpV m es=true↔∀e∈es,Region.binds .any e=true->Ziq m e.on=true
  |[]=>by simp[ZpV]
  | e::es=>by
    simp only[ZpV,Axq]
    cases a:Region.binds .any e with
    |false=>simp only[cond_false,Zg9];simp
    | true=>
      cases hm:Ziq m e.on with
      |false=>simp
      |true=>simp only[cond_true,Zg9];simp
theorem Zkv{i:Nat}:∀{es:List Edge},Zhb i es=true↔∃e,e∈es/\Region.binds .any e=true/\e.on=i
  |[]=>by simp[Zhb]
  | e::es=>by
    have c:=Zkv (i:=i) (es:=es);simp only[Zhb]
    cases d:Nat.beq e.on i with
    | false=>
      have b:=Awi d;simp only[cond_false,c];constructor
      ·rintro⟨x,a,h⟩;exact⟨x,.tail _ a,h⟩
      ·rintro⟨x,a,h⟩
       rcases Awr.1 a with rfl|a
       ·exact absurd h.2 b
       ·exact⟨x,a,h⟩
    | true =>
      have heq:=Awg d;simp only[cond_true]
      cases f:Region.binds .any e with
      |true=>simp only[cond_true,true_iff];exact⟨e,.head _,f,heq⟩
      | false=>
        simp only[cond_false,c];constructor
        ·rintro⟨x,a,h⟩;exact⟨x,.tail _ a,h⟩
        ·rintro⟨x,a,h⟩
         rcases Awr.1 a with rfl|a
         ·rw[f]at h;cases h.1
         ·exact⟨x,a,h⟩
structure Rel(ops:Array Oper)(m:Nat)(listed:Array Bool):Prop where
  size:listed.size=ops.size
  bit:∀j,listed.getD j false=Ziq m j
theorem Rel.zero(ops:Array Oper):Rel ops 0 (Array.replicate ops.size false) where
  size:=by simp
  bit j:=by
    rw[ZtT,Nat.zero_testBit];rw[Axr,Array.getElem?_replicate];split<;>rfl
theorem Rel.set{ops:Array Oper}{m:Nat}{a:Array Bool}(h:Rel ops m a){i:Nat}(hi:i<ops.size):Rel ops (ZqB m i) (a.setIfInBounds i true) where
  size:=by simp[h.size]
  bit j:=by
    rw[Zrj,<-h.bit j]
    by_cases b:j=i
    ·subst b
     have:j<a.size:=by rw[h.size];exact hi
     simp[Axr,this]
    ·simp[Axr,Ne.symm b,b]
theorem Rel.bit'{ops:Array Oper}{m:Nat}{a:Array Bool}(h:Rel ops m a){j:Nat}(b:j<ops.size):a.getD j true=Ziq m j:=by
  rw[<-h.bit j];have:j<a.size:=by rw[h.size];exact b
  simp[Axr,this]
theorem Rel.ready{ops:Array Oper}{m:Nat}{a:Array Bool}(h:Rel ops m a){j:Nat}:j∈Region.ready .any ops a↔∃o,ops[j]?=some o/\ZcB m j o=true:=by
  rw[mem_ready];constructor
  ·rintro ⟨h0,o,ho,d⟩;refine⟨o,ho,?_⟩
   have f:j<ops.size:=by
     rcases Aqd j ops.size with h|h
     ·exact h
     ·rw[Aqe h]at ho;cases ho
   unfold ZcB;rw[<-h.bit' f,h0];simp only[cond_false];exact Zg9.2 λe he b=>by rw[<-h.bit];exact d e (by simpa using he) b
  ·rintro ⟨o,ho,c⟩
   have f:j<ops.size:=by
     rcases Aqd j ops.size with h|h
     ·exact h
     ·rw[Aqe h]at ho;cases ho
   unfold ZcB at c
   cases b:Ziq m j with
   |true=>rw[b]at c;cases c
   | false=>
     rw[b]at c;simp only[cond_false]at c;exact⟨by rw[h.bit' f,b],o,ho,λe he b=>by rw[h.bit];exact Zg9.1 c e (by simpa using he) b⟩
theorem Zmi{m i:Nat}:∀{os:List Oper} {k:Nat},ZlB m i k os=true->∀j o,os[j]?=some o->ZcB m (k+j) o=true->k+j=i
  |[],k,_,j,o,ho,_=>by simp at ho
  | x::os,k,h,j,o,ho,a=>by
    simp only[ZlB]at h
    cases b:Nat.beq k i with
    | true=>
      rw[b]at h
      cases j with
      |zero=>exact Awg b
      | succ j=>
        have:=Zmi (k:=k+1) h j o (by simpa using ho) (by rw[show k+1+j=k+(j+1)from by omega];exact a);omega
    | false =>
      rw[b]at h;simp only[cond_false]at h
      cases c:ZcB m k x with
      |true=>rw[c]at h;cases h
      | false=>
        rw[c]at h
        cases j with
        | zero=>
          simp at ho;subst ho;rw[Axi,c]at a;cases a
        | succ j=>
          have:=Zmi (k:=k+1) h j o (by simpa using ho) (by rw[show k+1+j=k+(j+1)from by omega];exact a);omega
theorem Zk3{m i l:Nat}:∀{os:List Oper} {k:Nat},Zpt m i l k os=true->∀j o,os[j]?=some o->ZcB m (k+j) o=true->k+j=i\/k+j=l
  |[],k,_,j,o,ho,_=>by simp at ho
  | x::os,k,h,j,o,ho,a=>by
    simp only[Zpt]at h
    cases b:(Nat.beq k i||Nat.beq k l)with
    | true=>
      rw[b]at h
      cases j with
      | zero=>
        rw[Bool.or_eq_true]at b;exact b.imp Awg Awg
      | succ j=>
        have:=Zk3 (k:=k+1) h j o (by simpa using ho) (by rw[show k+1+j=k+(j+1)from by omega];exact a);omega
    | false =>
      rw[b]at h;simp only[cond_false]at h
      cases c:ZcB m k x with
      |true=>rw[c]at h;cases h
      | false=>
        rw[c]at h
        cases j with
        | zero=>
          simp at ho;subst ho;rw[Axi,c]at a;cases a
        | succ j=>
          have:=Zk3 (k:=k+1) h j o (by simpa using ho) (by rw[show k+1+j=k+(j+1)from by omega];exact a);omega
theorem ZpQ{ops:Array Oper}{g:Oper}{m i:Nat}:∀{os:List Oper} {k:Nat},Zo1 ops g m i k os=true->∀j o,os[j]?=some o->k+j≠i->Ziq m (k+j)=false->
    (∀e∈o.after,Region.binds .any e=true->e.on≠i)->g.apart ops o=true
  |[],k,_,j,o,ho,_,_,_=>by simp at ho
  | x::os,k,h,j,o,ho,l,a,b=>by
    simp only[Zo1]at h;generalize f:(bif Nat.beq k i then true else bif Ziq m k then true else bif Zhb i x.after.toList then true else g.apart ops x)=c at h
    cases c with
    |false=>cases h
    | true =>
      simp only[cond_true]at h
      cases j with
      |succ j=>exact ZpQ (k:=k+1) h j o (by simpa using ho) (by omega) (by rw[show k+1+j=k+(j+1)from by omega];exact a) b
      | zero=>
        simp at ho;subst ho
        have d:Nat.beq k i=false:=by
          cases d:Nat.beq k i with
          |false=>rfl
          |true=>exact absurd (Awg d) (by simpa using l)
        rw[Axi]at a;rw[d,a]at f;simp only[cond_false]at f
        cases hw:Zhb i x.after.toList with
        | true=>
          obtain⟨e,he,d,n⟩:=Zkv.1 hw;exact absurd n (b e (by simpa using he) d)
        |false=>rw[hw]at f;exact f
end Go.Fw
