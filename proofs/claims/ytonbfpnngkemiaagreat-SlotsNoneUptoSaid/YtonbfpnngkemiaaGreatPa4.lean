/- Why a reading is right: each operation, whole. -/
import Derived.Laws.StructEq
import Derived.Test.YtonbfpnngkemiaaGreatPa3
set_option linter.unusedVariables false
set_option linter.unusedSimpArgs false
namespace Go.Fw
open Go
theorem ZeB(P:Program)(w:World)(t:TypeId)(cs:Array Value):(newRow t cs).run P w= .ok ⟨w.heap.size,0,none⟩ {w with heap:=w.heap.push (.cells cs t)}:=by unfold newRow;simp
theorem ZxB(P:Program)(w:World)(t:TypeId)(v:Value){i:TypeInfo}(hi:P.info? t=some i)(hv:i.zero=some v):
    (Instr.alloc t true (.tuple #[])).run P w= .ok (.pointer (some ⟨w.heap.size,0,none⟩)) {w with heap:=w.heap.push (.cells v.cells t)}:=by
  unfold Instr.alloc newVar;simp[Zam P w t hi hv,ZeB]
theorem ZD3(P:Program)(w:World)(t:TypeId)(v:Value):
    (Instr.box t v).run P w= .ok (.pointer (some ⟨w.heap.size,0,none⟩)) {w with heap:=w.heap.push (.cells v.cells t)}:=by
  unfold Instr.box newVar;simp[ZeB]
theorem ZnR(P:Program)(w:World):∀(l:List Field),(∀f∈l,∃i,P.info? f.type=some i)->
    (l.mapM λf=>(do pure (f.offset,<-sizeOf f.type):Sem (Nat×Nat))).run P w= .ok (l.map λf=>(f.offset,P.cellsOf f.type)) w
  |[],_=>by simp
  | f::l,h=>by
    obtain⟨i,hi⟩:=h f (by simp);have a:=ZnR P w l (λg b=>h g (by simp[b]));rw[Awz];simp only[Awk,Xo P w f.type hi,Awl,Awp,a,Awo,Zcr P hi]
theorem ZmX(P:Program)(w:World)(t:TypeId){fs:Array Field}{zs:List Value}{b:List (Nat×Value)}{l:List (Nat×List Value)}
    (hu:P.underlying t=some (.struct fs)) (hz:ZmQ P t=some zs) (a:(fs.toList.all λf=>(P.info? f.type).isSome)=true)
    (c:ZFj (λi=>(fs.toList[i]?).map λf=>(f.offset,P.cellsOf f.type)) zs.length b l):
    (Instr.build t b.toArray).run P w= .ok (.agg (Zhh zs l).toArray) w:=by
  obtain⟨i,v,hi,hv,rfl⟩:=ZeA hz;unfold Instr.build;simp only[Awk,Zam P w t hi hv,Awl,Zl P w t hu];rw[Axa]
  simp only[Sem.run_map,ZnR P w fs.toList (λf c=>by
    have:=Axb.1 a f c
    exact Axc.1 this),Awl]
  have:=Zh0 (λ(x:Nat)=>((fs.toList.map λ(f:Field)=>(f.offset,P.cellsOf f.type)).toArray)[x]?) v.cells.toList.length b l v.cells (by simp) (by
    have e:(λ(x:Nat)=>((fs.toList.map λ(f:Field)=>(f.offset,P.cellsOf f.type)).toArray)[x]?)=(λ(i:Nat)=>(fs.toList[i]?).map λ(f:Field)=>(f.offset,P.cellsOf f.type)):=by
      funext x
      simp
    rw[e];exact c)
  simp only[this];rfl
theorem Znz(P:Program)(w:World)(t:TypeId){n:Nat}{el:TypeId}{zs:List Value}{a:List (Nat×Value)}{l:List (Nat×List Value)}{j:TypeInfo}
    (hu:P.underlying t=some (.array n el)) (hz:ZmQ P t=some zs) (b:P.info? el=some j)
    (c:ZFj (λi=>some (i*P.cellsOf el,P.cellsOf el)) zs.length a l):
    (Instr.build t a.toArray).run P w= .ok (.agg (Zhh zs l).toArray) w:=by
  obtain⟨i,v,hi,hv,rfl⟩:=ZeA hz;unfold Instr.build;simp only[Awk,Zam P w t hi hv,Awl,Zl P w t hu,Xo P w el b];have:=Zh0 (λi=>some (i*j.size,j.size)) v.cells.toList.length a l v.cells (by simp) (by rw[Zcr P b]at c;exact c);simp only[this];rfl
theorem ZoV(P:Program)(w:World)(t:TypeId){n:Nat}{el:TypeId}{zs:List Value}{a:List (Nat×Value)}{l:List (Nat×List Value)}
    (hu:P.underlying t=some (.slice el)) (hz:ZmQ P el=some zs) (hs:zs.length=P.cellsOf el) (hle:n*P.cellsOf el<=ZlR)
    (f:ZFj (λi=>some (i*P.cellsOf el,P.cellsOf el)) (n*P.cellsOf el) a l):
    (Instr.buildSlice t n a.toArray).run P w= .ok (.slice (some ⟨w.heap.size,0,none⟩) n n) {w with heap:=w.heap.push (.cells (Zhh (XR zs n) l).toArray el)}:=by
  obtain⟨i,v,hi,hv,rfl⟩:=ZeA hz;have b:=Zcr P hi;unfold Instr.buildSlice;simp only[Awk,Zl P w t hu,Awl,Xo P w el hi];rw[b]at hs hle f
  have c:¬(n*i.size>2 ^ 24):=by
    have:(2:Nat) ^ 24=ZlR:=by unfold ZlR;decide
    omega
  have hlen:v.cells.size=i.size:=by simpa using hs
  have fin:∀z:Array Value,((Array.range (n*i.size)).map (λx=>z[x % z.size]!)).toList=XR v.cells.toList n->
      Instr.fill (λj=>some (j*i.size,i.size)) ((Array.range (n*i.size)).map (λx=>z[x % z.size]!)) a=some (Zhh (XR v.cells.toList n) l).toArray:=by
    intro z d;have:=Zh0 (λj=>some (j*i.size,i.size)) (n*i.size) a l ((Array.range (n*i.size)).map (λx=>z[x % z.size]!)) (by simp) f;rw[d]at this;exact this
  simp only[if_neg c]
  by_cases h:n*i.size=0
  ·rw[if_pos h];have e:XR v.cells.toList n=[]:=Aqr (by rw[ZiF];simpa[hlen]using h);simp only[Awk,Awp,Awl];rw[fin #[] (by rw[e];simp[h])];simp only[Awk,ZeB,Awl,Awp]
  ·rw[if_neg h];simp only[Awk,Zam P w el hi hv,Awp,Awl];rw[fin v.cells (ZkX v.cells n _ (by rw[hlen]))];simp only[Awk,ZeB,Awl,Awp]
theorem Zpm{P:Program}{w:World}{t:TypeId}{b o:Nat}{v:Value}(h:(loadVar t ⟨b,o,none⟩).run P w= .ok v w):
    (Instr.loadAt t (.pointer (some ⟨b,o,none⟩))).run P w= .ok v w:=by
  unfold Instr.loadAt Instr.sureAddr;simp[h]
theorem Ztn{P:Program}{w w':World}{t:TypeId}{b o:Nat}{v:Value}(h:(storeVar t ⟨b,o,none⟩ v).run P w= .ok () w'):
    (Instr.storeAt t (.pointer (some ⟨b,o,none⟩)) v).run P w= .ok () w':=by
  unfold Instr.storeAt Instr.sureAddr;simp[h]
theorem Ztp{P:Program}{w:World}{s:TypeId}{b o f:Nat}{fs:Array Field}{fd:Field}(hu:P.underlying s=some (.struct fs))(d:fs.toList[f]?=some fd)
    (a:P.cellsOf fd.type≠0):(Instr.fieldAt s (.pointer (some ⟨b,o,none⟩)) f).run P w= .ok (.pointer (some ⟨b,o+fd.offset,none⟩)) w:=by
  unfold Instr.fieldAt Instr.sureAddr fieldPlace
  cases hi:P.info? fd.type with
  |none=>unfold Program.cellsOf at a;simp[hi]at a
  | some i=>
    have c:fs[f]?=some fd:=by simpa using d
    have h0:i.size≠0:=by rw[<-Zcr P hi];exact a
    simp only[Awk,Zl P w s hu,Awl,c,Awp,Xo P w _ hi,if_neg h0,Zoz]
theorem Zmb{P:Program}{w:World}{t el:TypeId}{b o l m size:Nat}{k:IntKind}{i:Int}{inf:TypeInfo}(hu:P.underlying t=some (.slice el))(hi:P.info? el=some inf)(hs:inf.size=size)
    (h0:0<=i) (h1:i<l):(Instr.indexAt t (.slice (some ⟨b,o,none⟩) l m) (.int k i)).run P w= .ok (.pointer (some ⟨b,o+i.toNat*size,none⟩)) w:=by
  unfold Instr.indexAt asIntOf;simp only[Awk,Awp,Awl,Zl P w t hu];simp[h0,h1,Xo P w el hi,hs,Zoz]
theorem Zmc{P:Program}{w:World}{t el:TypeId}{b o n size:Nat}{k:IntKind}{i:Int}{inf:TypeInfo}(hu:P.underlying t=some (.array n el))(hi:P.info? el=some inf)(hs:inf.size=size)
    (h0:0<=i) (h1:i<n):(Instr.indexAt t (.pointer (some ⟨b,o,none⟩)) (.int k i)).run P w= .ok (.pointer (some ⟨b,o+i.toNat*size,none⟩)) w:=by
  unfold Instr.indexAt asIntOf Instr.sureAddr;simp only[Awk,Awp,Awl,Zl P w t hu];simp[h0,h1,Xo P w el hi,hs,Zoz]
theorem ZmV{P:Program}{w:World}{t:TypeId}{s:ByteArray}{k:IntKind}{i:Int}{x:UInt8}(hu:P.underlying t=some .string)(h0:0<=i)(a:s[i.toNat]?=some x):
    (Instr.index t (.string s) (.int k i)).run P w= .ok (.int .u8 x.toNat) w:=by
  unfold Instr.index asIntOf;simp only[Awk,Awp,Awl,Zl P w t hu,if_pos h0,a]
theorem ZqG{P:Program}{w:World}{s:TypeId}{cs:Array Value}{f:Nat}{fs:Array Field}{fd:Field}{v:Value}{d:TypeDesc}(hu:P.underlying s=some (.struct fs))(c:fs.toList[f]?=some fd)
    (hd:P.underlying fd.type=some d) (e:Zck (some d)=false) (hv:cs.toList[fd.offset]?=some v):(Instr.field s (.agg cs) f).run P w= .ok v w:=by
  unfold Instr.field part asAgg;have a:fs[f]?=some fd:=by simpa using c
  have b:cs[fd.offset]?=some v:=by simpa using hv
  simp[Zl P w s hu,a,Zgk P w _ hd,e,b]
theorem ZqH{P:Program}{w:World}{s:TypeId}{cs:Array Value}{f:Nat}{fs:Array Field}{fd:Field}{d:TypeDesc}{inf:TypeInfo}(hu:P.underlying s=some (.struct fs))(b:fs.toList[f]?=some fd)
    (hd:P.underlying fd.type=some d) (c:Zck (some d)=true) (hi:P.info? fd.type=some inf):
    (Instr.field s (.agg cs) f).run P w= .ok (.agg ((cs.toList.drop fd.offset).take inf.size).toArray) w:=by
  unfold Instr.field part asAgg;have a:fs[f]?=some fd:=by simpa using b
  simp only[Awk,Zl P w s hu,Awl,a,Awp,Zgk P w _ hd,c,if_true,Xo P w _ hi];congr 2;apply Axd;simp[List.extract_eq_take_drop]
theorem Zjt{P:Program}{w:World}{k:IntKind}{i:Int}{y:Nat}{code:BoundsCode}(h0:0<=i)(h1:i<=y):(Instr.sliceBound (.int k i) y code).run P w= .ok i.toNat w:=by unfold Instr.sliceBound asIntOf;simp[h0,h1]
theorem ZxI{d n:Int}{x:Option (Option EV)}(h:ZxJ d x=some n):(x=none/\n=d)\/∃k,x=some (some (.val (.int k n))):=by
  unfold ZxJ at h;split at h
  ·simp only[Awh]at h;exact .inl ⟨rfl,h.symm⟩
  ·simp only[Awh]at h;subst h;exact .inr ⟨_,rfl⟩
  ·cases h
theorem Zmz{P:Program}{w:World}{isSlice:Bool}{len cap:Nat}{lo hi c:Option Value}{l h m:Int}
    (a:(lo=none/\l=0)\/∃k,lo=some (.int k l)) (b:(hi=none/\h=len)\/∃k,hi=some (.int k h)) (f:(c=none/\m=cap)\/∃k,c=some (.int k m))
    (g:hi=none->c=none) (h0:0<=l) (h1:l<=h) (j:h<=m) (h3:m<=cap):
    (Instr.sliceBounds isSlice len cap lo hi c).run P w= .ok (l.toNat,h.toNat,m.toNat) w:=by
  unfold Instr.sliceBounds;have n:(m.toNat:Int)=m:=Axe (by omega);have o:(h.toNat:Int)=h:=Axe (by omega)
  rcases f with⟨rfl,rfl⟩ |⟨i,rfl⟩
  ·rcases b with⟨rfl,rfl⟩ |⟨d,rfl⟩
   ·rcases a with⟨rfl,rfl⟩ |⟨e,rfl⟩
    ·simp
    ·simp[Zjt h0 h1]
   ·rcases a with⟨rfl,rfl⟩ |⟨e,rfl⟩
    ·simp only[Awk,Awp,Awl,Zjt (k:=d) (y:=cap) (by omega:0<=h) (by omega)];simp
    ·simp only[Awk,Awp,Awl,Zjt (k:=d) (y:=cap) (by omega:0<=h) (by omega),Zjt (k:=e) (y:=h.toNat) h0 (by omega)];simp
  ·rcases b with⟨rfl,rfl⟩ |⟨d,rfl⟩
   ·cases g rfl
   ·simp only[Awk,Zjt (k:=i) (y:=cap) (by omega:0<=m) h3,Awl,Zjt (k:=d) (y:=m.toNat) (by omega:0<=h) (by omega)]
    rcases a with⟨rfl,rfl⟩ |⟨e,rfl⟩
    ·simp
    ·simp only[Awk,Zjt (k:=e) (y:=h.toNat) h0 (by omega),Awl,Awp]
theorem Zl8{P:Program}{w:World}{t el:TypeId}{p:Option Addr}{len cap size:Nat}{lo hi b:Option Value}{l h m:Int}{inf:TypeInfo}
    (hu:P.underlying t=some (.slice el)) (a:P.info? el=some inf) (hs:inf.size=size)
    (c:(Instr.sliceBounds true len cap lo hi b).run P w= .ok (l.toNat,h.toNat,m.toNat) w):
    (Instr.sliceAt t (.slice p len cap) lo hi b).run P w= .ok (.slice (ZjH p l.toNat m.toNat size) (h.toNat- l.toNat) (m.toNat- l.toNat)) w:=by
  unfold Instr.sliceAt Instr.slice ZjH;simp only[Awk,Zl P w t hu,Awl,c,Xo P w el a,hs,Awp]
theorem Zl9{P:Program}{w:World}{t el:TypeId}{b o n size:Nat}{lo hi c:Option Value}{l h m:Int}{inf:TypeInfo}
    (hu:P.underlying t=some (.array n el)) (a:P.info? el=some inf) (hs:inf.size=size)
    (d:(Instr.sliceBounds false n n lo hi c).run P w= .ok (l.toNat,h.toNat,m.toNat) w):
    (Instr.sliceAt t (.pointer (some ⟨b,o,none⟩)) lo hi c).run P w= .ok (.slice (ZjH (some ⟨b,o,none⟩) l.toNat m.toNat size) (h.toNat- l.toNat) (m.toNat- l.toNat)) w:=by
  unfold Instr.sliceAt ZjH;simp only[Awk,Zl P w t hu,Awl,Instr.sureAddr,d,Xo P w el a,hs,Awp];split<;>rfl
theorem Zlt{P:Program}{w:World}{t:TypeId}{s:ByteArray}{lo hi:Option Value}{l h:Int}{m:Nat}
    (hu:P.underlying t=some .string) (a:(Instr.sliceBounds false s.size s.size lo hi none).run P w= .ok (l.toNat,h.toNat,m) w):
    (Instr.sliceAt t (.string s) lo hi none).run P w= .ok (.string (s.extract l.toNat h.toNat)) w:=by
  unfold Instr.sliceAt Instr.slice;simp only[Awk,Zl P w t hu,Awl,Awf,Aqc,if_false,a,Awp]
theorem Zw3{n:Int}(h0:0<=n)(h1:n<=9223372036854775807):IntKind.i64.wrap n=n:=by
  unfold IntKind.wrap;have b:(2:Int) ^ IntKind.i64.bits=18446744073709551616:=by decide
  have a:(2:Int) ^ (IntKind.i64.bits- 1)=9223372036854775808:=by decide
  simp only[b,a];have:n % 18446744073709551616=n:=Int.emod_eq_of_lt h0 (by omega);rw[this];have:¬(n>=9223372036854775808):=by omega
  simp[this]
theorem ZqF{P:Program}{w:World}{t el:TypeId}{k f:IntKind}{l c:Int}{inf:TypeInfo}{z:Value}
    (hu:P.underlying t=some (.slice el)) (a:P.info? el=some inf) (hz:inf.zero=some z) (hlen:z.cells.size=inf.size)
    (h0:0<=l) (h1:l<=c) (g:c*inf.bytes<=281474976710656) (h3:c<=281474976710656):
    (Instr.makeSlice t (.int k l) (.int f c)).run P w= .ok (.slice (some ⟨w.heap.size,0,none⟩) l.toNat c.toNat) {w with heap:=w.heap.push (.cells (XR z.cells.toList c.toNat).toArray el)}:=by
  unfold Instr.makeSlice asInt asIntOf;have wl:IntKind.i64.wrap l=l:=Zw3 h0 (by omega);have h:IntKind.i64.wrap c=c:=Zw3 (by omega) (by omega);have e:(2:Int) ^ 48=281474976710656:=by decide
  simp only[Awk,Zl P w t hu,Awl,Awp,ZbO P w el a,wl,h]
  have i:¬((decide (c<0)||decide ((inf.bytes:Int)*c>2 ^ 48)||decide (l<0)||decide (l>c))=true):=by
    have j:¬c<0:=by omega
    have m:(inf.bytes:Int)*c<=281474976710656:=by rw[Int.mul_comm];exact g
    have n:¬l<0:=by omega
    have o:¬l>c:=by omega
    simp[j,m,n,o]
  rw[if_neg i];simp only[Awk,run_askRoom,Awl,Xo P w el a]
  by_cases b:c.toNat*inf.size=0
  ·rw[if_pos b];have d:XR z.cells.toList c.toNat=[]:=Aqr (by rw[ZiF];simpa[hlen]using b);simp only[Awk,Awp,Awl,ZeB];have p:Array.range 0= #[]:=Array.eq_empty_of_size_eq_zero (by simp);rw[d];simp[b,p]
  ·rw[if_neg b];simp only[Awk,Zam P w el a hz,Awp,Awl,ZeB];have:=ZkX z.cells c.toNat (c.toNat*inf.size) (by rw[hlen]);congr 3;rw[<-this]
theorem Zpw{Zx cap bytes:Nat}(h:cap<Zx)(e:Zx*bytes<=140737488355328):Builtin.nextslicecap Zx cap*bytes<=281474976710656:=by
  unfold Builtin.nextslicecap;split
  ·omega
  ·split
   ·have:2*cap*bytes<=2*(Zx*bytes):=by rw[Nat.mul_assoc];exact Nat.mul_le_mul_left 2 (Aqz _ (by omega))
    omega
   ·have key:∀(r c:Nat),c<=2*Zx->256<=c->Builtin.growBy Zx r c<=2*Zx:=by
      intro r
      induction r with
      |zero=>intro c b _;unfold Builtin.growBy;omega
      | succ r d=>
        intro c b a;unfold Builtin.growBy;split
        ·omega
        ·exact d _ (by omega) (by omega)
    have:=key 4 cap (by omega) (by omega)
    have:Builtin.growBy Zx 4 cap*bytes<=2*(Zx*bytes):=by
      rw[<-Nat.mul_assoc];exact Aqz _ this
    omega
theorem ZAW{P:Program}{w:World}{x:Sl}{size:Nat}{K:List Value->Prop}(h:rdS x size w.heap K):
    ∃l,(Builtin.firstCells size x.len (.slice x.ptr x.len x.cap)).run P w= .ok l.toArray w/\K l:=by
  rcases h with⟨a,c⟩ |⟨b,o,l,a,hl,d,c⟩
  ·refine⟨[],?_,c⟩;rw[a];cases x.ptr<;>simp[Builtin.firstCells,loadCells,loadCellsFrom]
  ·refine⟨l,?_,c⟩;rw[a];simp only[Builtin.firstCells];rw[<-hl];exact ZeM P w b o l d
theorem ZmB(z:Array Value)(n:Nat):(Builtin.zeroCells z n).toList=XR z.toList n:=by unfold Builtin.zeroCells;exact ZkX z n _ rfl
theorem Zpn{P:Program}{w:World}{t el:TypeId}{ts:Array TypeId}{rt:TypeId}{s:Sl}{x:Value}{n:Nat}{new:List Value}{inf:TypeInfo}{z:Value}{K:Sl->Zf->Prop}
    (H:ts[0]?=some t) (D:∀u,ts[1]?=some u->∃d,P.underlying u=some d/\∀k,d≠ .int k)
    (hu:P.underlying t=some (.slice el)) (g:P.info? el=some inf) (hz:inf.zero=some z)
    (hlen:(Builtin.lenOf x).run P w= .ok n w) (l:∀w':World,w'.heap=w.heap->(Builtin.firstCells inf.size n x).run P w'= .ok new.toArray w')
    (m:app el inf.size inf.bytes z.cells.toList s n new w.heap K):
    ∃s' w',(Builtin.append_ ts rt #[.slice s.ptr s.len s.cap,x]).run P w= .ok (.slice s'.ptr s'.len s'.cap) w'/\Same w w'/\K s' w'.heap:=by
  obtain⟨p,i⟩:=m;have r:IntKind.i64.max=9223372036854775807:=by decide
  have v:(2:Nat) ^ 48=281474976710656:=by decide
  have j:∀ (f:s.cap<s.len+n) (W:World),W=w->∃s' w',
      (do let c <-choose (Question.appendCap (s.len+n) s.cap el)
          let __do_lift <-typeInfo el
          askRoom (c*__do_lift.bytes)
          let old <-Builtin.firstCells inf.size s.len (Value.slice s.ptr s.len s.cap);let new <-Builtin.firstCells inf.size n x;let __do_lift <-zeroValue el;let __do_lift <-newRow el (old++new++Builtin.zeroCells __do_lift.cells (c- (s.len+n)))
          pure (Value.slice (some __do_lift) (s.len+n) c):Sem Value).run P W= .ok (.slice s'.ptr s'.len s'.cap) w'/\Same w w'/\K s' w'.heap:=by
    rintro f W rfl;obtain⟨B,hle,E⟩:=i f;have I:(Question.appendCap (s.len+n) s.cap el).forced=false:=rfl;simp only[Awk,run_choose,I,Aqc,if_false,Awl];generalize y:(Question.appendCap (s.len+n) s.cap el).cut (W.tape W.drawn (Question.appendCap (s.len+n) s.cap el))=c
    have A:s.len+n<=c/\c<9223372036854775808:=by
      subst y;simp only[Question.cut];have:(2:Nat) ^ 63=9223372036854775808:=by decide
      rw[this];have:=Nat.mod_lt (W.tape W.drawn (Question.appendCap (s.len+n) s.cap el)) (show 9223372036854775808-(s.len+n)>0 by omega);omega
    obtain⟨old,hold,m⟩:=ZAW (P:=P) (w:={W with drawn:=W.drawn+1}) E;simp only[ZbO P _ el g,Awl,run_askRoom,hold,l {W with drawn:=W.drawn+1} rfl,Zam P _ el g hz,ZeB,Awp];refine⟨⟨some ⟨W.heap.size,0,none⟩,s.len+n,c⟩,_,rfl,⟨rfl,rfl,rfl⟩,?_⟩;have:=m c A.1 A.2;rw[<-ZmB]at this
    have e:(old++new++(Builtin.zeroCells z.cells (c- (s.len+n))).toList).toArray=old.toArray++new.toArray++Builtin.zeroCells z.cells (c- (s.len+n)):=by
      apply Axd;simp
    rw[e]at this;exact this
  unfold Builtin.append_;simp only[H,Axf,Axg,Axh,Awk,Zl P w t hu,Awl,Xo P w el g]
  have rest:∀ (q:Prop),¬q->∃s' w',(if s.len+n<=s.cap then(do
          let new <-Builtin.firstCells inf.size n x
          match s.ptr with
            | some a=>do
              storeCells (a.add (s.len*inf.size)) new.toList
              pure (Value.slice s.ptr (s.len+n) s.cap)
            |_=>pure (Value.slice s.ptr (s.len+n) s.cap):Sem Value)else stuck "").run P w= .ok (.slice s'.ptr s'.len s'.cap) w'/\Same w w'/\K s' w'.heap\/s.cap<s.len+n:=by
    intro _ _
    rcases Aqd s.cap (s.len+n)with f|hle
    ·exact⟨⟨none,0,0⟩,w,.inr f⟩
    ·rw [if_pos hle];simp only[Awk,l w rfl,Awl]
     rcases p hle with⟨C,m⟩ |⟨b,o,C,J,L,m⟩
     ·refine⟨⟨s.ptr,s.len+n,s.cap⟩,w,.inl ⟨?_,Same.refl w,m⟩⟩;rw[C];cases s.ptr<;>simp[storeCells]
     ·rw[C];refine⟨⟨some ⟨b,o,none⟩,s.len+n,s.cap⟩,{w with heap:=Zf.puts w.heap b (o+s.len*inf.size) new},.inl ⟨?_,⟨rfl,rfl,rfl⟩,by rw[C]at m;exact m⟩⟩;simp only[Zoz,Awk];have:=Zf6 P b (o+s.len*inf.size) new 0 w (by simpa using J) L;simp only[Axi]at this;rw[this];rfl
  obtain⟨F,G,h⟩:=rest False id
  cases h1:ts[1]? with
  | none=>
    simp only[Awk,Awp,Awl,Aqc,if_false,hlen,Axj,if_true,false_or]
    rcases Aqd s.cap (s.len+n)with f|hle
    ·rw[if_neg (by omega)];obtain⟨B,hle,_⟩:=i f;simp only[Awk,ZbO P w el g,Awl];rw[if_neg (by rw[r];omega)];simp only[Awk,ZbO P w el g,Awl];rw[if_neg (by rw[v];have:=Zpw f B;omega)];exact j f w rfl
    ·rw[if_pos hle]at h⊢;exact⟨F,G,h.resolve_right (by omega)⟩
  | some u=>
    obtain⟨d,hd,M⟩:=D u h1;simp only[Awk,Awp,Zl P w u hd,Awl,Aqc,if_false,hlen,Axj,if_true,false_or]
    rcases Aqd s.cap (s.len+n)with f|hle
    ·rw[if_neg (by omega)];obtain⟨B,hle,_⟩:=i f;simp only[Awk,ZbO P w el g,Awl];rw[if_neg (by rw[r];omega)];simp only[Awk,ZbO P w el g,Awl];rw[if_neg (by rw[v];have:=Zpw f B;omega)];exact j f w rfl
    ·rw[if_pos hle]at h⊢;exact⟨F,G,h.resolve_right (by omega)⟩
theorem Zog(P:Program)(f:Value->ByteArray->Sem (ForInStep ByteArray))(a:∀n s,f (.int .u8 n) s=pure (ForInStep.yield (s.push (UInt8.ofNat n.toNat)))):
    ∀(l:List UInt8) (acc:ByteArray) (w:World),(forIn (l.map λb=>Value.int .u8 b.toNat) acc f).run P w= .ok (l.foldl ByteArray.push acc) w
  |[],acc,w=>by simp
  | x::l,acc,w=>by
    simp only[Awo,Axk,a,Awk,Awp,Awl,Awq];have:=Zog P f a l (acc.push x) w;simpa using this
theorem Zwd(l:List UInt8):∀acc:ByteArray,l.foldl ByteArray.push acc=⟨acc.data++l.toArray⟩:=by
  induction l with
  |nil=>intro acc;simp
  | cons x l a=>
    intro acc;rw[Awq,a];simp[ByteArray.push]
theorem Ztq{P:Program}{w:World}{x:Sl}{K:ByteArray->Prop}(h:b2s x w.heap K):
    ∃s,(Conv.bytesToString (.slice x.ptr x.len x.cap)).run P w= .ok (.string s) w/\K s:=by
  rcases h with⟨a,c⟩ |⟨b,o,s,a,hl,d,c⟩
  ·refine⟨_,?_,c⟩;rw[a];cases x.ptr<;>rfl
  ·refine ⟨s,?_,c⟩
   rw[a];unfold Conv.bytesToString;have hlen:(ZfB s).length=x.len:=by rw[<-hl];unfold ZfB;simp
   simp only[Awk,<-hlen,ZeM P w b o _ d,Awl];simp only[List.forIn_toArray];unfold ZfB;rw[Zog P _ (λ_ _=>rfl)];simp only[Awl,Zwd];simp
theorem ZD2{P:Program}{w:World}{el:TypeId}{s:ByteArray}{K:Sl->Zf->Prop}(h:s2b el s w.heap K):
    ∃x w',(Conv.stringToBytes el s).run P w= .ok (.slice x.ptr x.len x.cap) w'/\Same w w'/\K x w'.heap:=by
  obtain⟨hs,h⟩:=h;unfold Conv.stringToBytes;have g:(Question.appendCap s.size 0 el).forced=false:=rfl;simp only[Awk,run_choose,g,Aqc,if_false,Awl];generalize a:(Question.appendCap s.size 0 el).cut (w.tape w.drawn (Question.appendCap s.size 0 el))=cap
  have d:s.size<=cap/\cap<9223372036854775808:=by
    subst a;simp only[Question.cut];have:(2:Nat) ^ 63=9223372036854775808:=by decide
    rw[this];have:=Nat.mod_lt (w.tape w.drawn (Question.appendCap s.size 0 el)) (show 9223372036854775808-s.size>0 by omega);omega
  simp only[ZeB,Awl]
  have f:((s.data.map λb=>Value.int .u8 b.toNat)++Array.replicate (cap- s.size) (Value.int .u8 0)).size=cap:=by
    simp;have:s.data.size=s.size:=rfl;omega
  unfold markStringish;simp only[Awk,run_shape,Awl,World.shape?,Array.getElem?_push_size,f,run_freeze,Awp];refine⟨⟨some ⟨w.heap.size,0,none⟩,s.size,cap⟩,_,rfl,?_,?_⟩
  ·unfold World.freeze;simp only[Axl,if_false];exact⟨rfl,rfl,rfl⟩
  ·have:=h cap d.1 d.2;unfold World.freeze;simp only[Axl,if_false]
   have e:(w.heap.push (Obj.cells ((s.data.map λb=>Value.int .u8 b.toNat)++Array.replicate (cap- s.size) (Value.int .u8 0)) el)).modify w.heap.size
       (λx=>match x with
         | .cells c elem (lo,hi)=>.cells c elem (if(lo==hi)=true then(cap,cap+1)else(min lo cap,max hi (cap+1)))
         |o=>o)=w.heap.push (.cells (ZfB s++List.replicate (cap- s.size) (Value.int .u8 0)).toArray el (cap,cap+1)):=by
     have j:((s.data.map λb=>Value.int .u8 b.toNat)++Array.replicate (cap- s.size) (Value.int .u8 0))=(ZfB s++List.replicate (cap- s.size) (Value.int .u8 0)).toArray:=by
       apply Axd;simp[ZfB]
     rw[j];apply Array.ext_getElem?;intro i;rw[Aqi]
     by_cases hi:w.heap.size=i
     ·subst hi;simp
     ·rw[if_neg hi];simp[Array.getElem?_push,Ne.symm hi]
   exact e▸this
theorem Zgy{b:Bool}{A:Prop}(h:bif b then A else False):b=true/\A:=by
  cases b with
  |true=>exact⟨rfl,h⟩
  |false=>exact h.elim
theorem ZjT{P:Program}{w:World}{s d:TypeId}{k a j:IntKind}{n:Int}(hs:P.underlying s=some (.int j))(hd:P.underlying d=some (.int k)):
    (convert s d (.int a n)).run P w= .ok (.int k (k.wrap n)) w:=by
  unfold convert;simp only[Awk,Zl P w s hs,Zl P w d hd,Awl];rfl
theorem Zlu{P:Program}{w:World}{s d:TypeId}{x:ByteArray}(hs:P.underlying s=some .string)(hd:P.underlying d=some .string):
    (convert s d (.string x)).run P w= .ok (.string x) w:=by
  unfold convert;simp only[Awk,Zl P w s hs,Zl P w d hd,Awl];rfl
theorem Zny{P:Program}{w:World}{s d e:TypeId}{x:ByteArray}(hs:P.underlying s=some .string)(hd:P.underlying d=some (.slice e))(he:P.underlying e=some (.int .u8)):
    (convert s d (.string x)).run P w=(Conv.stringToBytes e x).run P w:=by
  unfold convert;simp only[Awk,Zl P w s hs,Zl P w d hd,Zl P w e he,Awl]
theorem ZjU{P:Program}{w:World}{s d e:TypeId}{p:Option Addr}{l m:Nat}(hs:P.underlying s=some (.slice e))(hd:P.underlying d=some .string)(he:P.underlying e=some (.int .u8)):
    (convert s d (.slice p l m)).run P w=(Conv.bytesToString (.slice p l m)).run P w:=by
  unfold convert;simp only[Awk,Zl P w s hs,Zl P w d hd,Zl P w e he,Awl]
theorem ZmW{P:Program}{w:World}{s e f:TypeId}{b o l m:Nat}{c:Array Value}{t:TypeId}(hs:P.underlying s=some (.slice f))(hd:P.underlying s=some (.slice e))(he:P.underlying e=some (.int .u8))
    (g:w.heap[b]?=some (.cells c t (0,0))):(convert s s (.slice (some ⟨b,o,none⟩) l m)).run P w= .ok (.slice (some ⟨b,o,none⟩) l m) {w with heap:=Zf.frz w.heap b}:=by
  unfold convert;simp only[Awk,Zl P w s hs,Zl P w f (by rw[hs]at hd;cases hd;exact he),Awl,BEq.rfl];unfold markStringish;have a:w.shape? b=some (t,c.size):=by unfold World.shape?;rw[g]
  simp only[Awk,run_shape,a,Awl,run_freeze,Awp]
  have d:World.freeze w {block:=b,off:=c.size} 1={w with heap:=Zf.frz w.heap b}:=by
    unfold World.freeze Zf.frz;simp only[Axl,if_false];refine congrArg (λh=>({w with heap:=h}:World)) ?_;apply Array.ext_getElem?;intro i;rw[Aqi,Aqi]
    by_cases hi:b=i
    ·subst hi;rw[if_pos rfl,if_pos rfl,g];simp
    ·rw[if_neg hi,if_neg hi]
  rw[d]
def Val(c:Cfg)(o:Oper)(a:Act)(w:World)(K:EV->Zf->Prop):Prop:=
  ∃v w',(execOp a.eval o).run c.P w= .ok (.value v.v) w'/\Same w w'/\K v w'.heap
theorem Val.wp{c:Cfg}{o:Oper}{a:Act}{w:World}{K:EV->Zf->Prop}{next:Act->World->Prop}{Q:Exit->Act->World->Prop}
    (h:Val c o a w K) (b:∀v w',Same w w'->K v w'.heap->next (a.put o.dst v.v) w'):o.wpIn (fen c.rnd) 0 c.P a w next Q:=
  let⟨v,_,d,hs,e⟩:=h
  ZBO d (b v _ hs e)
theorem Val.of{c:Cfg}{o:Oper}{a:Act}{w w':World}{K:EV->Zf->Prop}{v:EV}{s:Sem Value}(he:execOp a.eval o=(do pure (.value (<-s))))(b:s.run c.P w= .ok v.v w')(hs:Same w w')(d:K v w'.heap):
    Val c o a w K:=⟨v,w',by rw[he];exact Zxz b,hs,d⟩
def ZtZ(c:Cfg)(o:Oper)(a:Act)(h:Zf)(K:EV->Zf->Prop):Prop:=
  ∃v:EV,(∀w:World,w.heap=h->(execOp a.eval o).run c.P w= .ok (.value v.v) w)/\K v h
def ZfC(c:Cfg)(o:Oper)(a:Act)(h:Zf)(K:EV->Zf->Prop):Prop:=
  ∃v:EV,(∀w:World,True->(execOp a.eval o).run c.P w= .ok (.value v.v) w)/\K v h
theorem ZfC.q{c:Cfg}{o:Oper}{a:Act}{h:Zf}{K:EV->Zf->Prop}(b:ZfC c o a h K):ZtZ c o a h K:=
  let⟨v,d,e⟩:=b
  ⟨v,λw _=>d w trivial,e⟩
theorem ZfC.of{c:Cfg}{o:Oper}{a:Act}{h:Zf}{K:EV->Zf->Prop}{v:EV}{s:Sem Value}(he:execOp a.eval o=(do pure (.value (<-s))))(b:∀w:World,True->s.run c.P w= .ok v.v w)(d:K v h):
    ZfC c o a h K:=⟨v,λw hw=>by rw[he];exact Zxz (b w hw),d⟩
theorem ZtZ.val{c:Cfg}{o:Oper}{a:Act}{w:World}{K:EV->Zf->Prop}(h:ZtZ c o a w.heap K):Val c o a w K:=
  let⟨v,b,d⟩:=h
  ⟨v,w,b w rfl,Same.refl w,d⟩
theorem ZfC.val{c:Cfg}{o:Oper}{a:Act}{w:World}{K:EV->Zf->Prop}(h:ZfC c o a w.heap K):Val c o a w K:=h.q.val
theorem ZtZ.of{c:Cfg}{o:Oper}{a:Act}{h:Zf}{K:EV->Zf->Prop}{v:EV}{s:Sem Value}(he:execOp a.eval o=(do pure (.value (<-s))))(b:∀w:World,w.heap=h->s.run c.P w= .ok v.v w)(d:K v h):
    ZtZ c o a h K:=⟨v,λw hw=>by rw[he];exact Zxz (b w hw),d⟩
section
variable{c:Cfg}{e:Env}{a:Act}{w:World}{h:Zf}{K:EV->Zf->Prop}{dst:Option Tmp}{type:TypeId}{pos:String}{after:Array Edge}{guard:Option (Nat×Bool)}
theorem Zqq(d:Agr c.n e a){x:Operand}(b:opP c (.move x) e h K):ZfC c ⟨dst,.move x,type,pos,after,guard⟩ a h K:=by
  simp only[opP]at b;split at b
  ·rename_i v hv;exact⟨v,λw hw=>by simp[execOp,d.ev hv],b⟩
  ·exact b.elim
theorem Zl4(d:Agr c.n e a){x:Operand}(f:opP c (.assign x) e h K):ZfC c ⟨dst,.assign x,type,pos,after,guard⟩ a h K:=by
  simp only[opP]at f;split at f
  ·rename_i k n hv;exact⟨.val (.int k n),λw hw=>by simp[execOp,d.ev hv],f⟩
  ·rename_i b hv;exact⟨.val (.bool b),λw hw=>by simp[execOp,d.ev hv],f⟩
  ·rename_i v _ _ hv;exact⟨v,λw hw=>by simp[execOp,d.ev hv],f⟩
  ·exact f.elim
theorem Zqp(d:Agr c.n e a){x y z:Operand}(f:opP c (.pick x y z) e h K):ZfC c ⟨dst,.pick x y z,type,pos,after,guard⟩ a h K:=by
  simp only[opP]at f;split at f
  ·rename_i u g i;refine⟨u,λw hw=>?_,f⟩;simp only[execOp,d.ev g,d.ev i];rfl
  ·rename_i u g i;refine⟨u,λw hw=>?_,f⟩;simp only[execOp,d.ev g,d.ev i];rfl
  ·rename_i b u v g hu hv;split at f
   ·rename_i p q j k;refine⟨_,λw hw=>?_,f⟩;simp only[execOp,d.ev g,d.ev hu,d.ev hv,j,k];cases b<;>rfl
   ·exact f.elim
  ·exact f.elim
theorem Zxa{t:TypeId}(b:opP c (.alloc t) e w.heap K):Val c ⟨dst,.alloc t,type,pos,after,guard⟩ a w K:=by
  simp only[opP]at b;split at b
  ·rename_i zs hz;obtain⟨i,v,hi,hv,rfl⟩:=ZeA hz;exact .of (v:=.adr w.heap.size 0) rfl (ZxB c.P w t v hi hv) ⟨rfl,rfl,rfl⟩ b
  ·exact b.elim
theorem ZDR(d:Agr c.n e a){t:TypeId}{x:Operand}(b:opP c (.box t x) e w.heap K):Val c ⟨dst,.box t x,type,pos,after,guard⟩ a w K:=by
  simp only[opP]at b;split at b
  ·rename_i v hv;refine .of (v:=.adr w.heap.size 0) rfl (ZD3 c.P w t _) ⟨rfl,rfl,rfl⟩ ?_;rw[d.ev hv]
   cases hd:Zyc (c.P.underlying t)with
   | true=>
     rw[hd]at b;obtain⟨h1,b⟩:=(show Zx _ _ from b)
     have:v.v.cells=[v.v].toArray:=by
       revert h1
       cases v.v<;>intro h1<;>first|rfl|cases h1
     rw[this];exact b
   | false=>
     rw[hd]at b;rw[Zrd];exact b
  ·exact b.elim
theorem ZnQ(b:Array (Nat×Operand))(a:Act)(f:Nat×Operand->Nat×Value)(c:∀x,f x=(x.1,a.eval x.2)):b.map f=(b.toList.map λx=>(x.1,a.eval x.2)).toArray:=by apply Axd;simp[funext c]
theorem ZA4{o:Op}{F:Array (Nat×Value)->Sem Value}{b:Array (Nat×Operand)}{f:Nat×Operand->Nat×Value}{v:EV}{w':World}
    (he:execOp a.eval ⟨dst,o,type,pos,after,guard⟩=(do pure (.value (<-F (b.map f))))) (d:∀x,f x=(x.1,a.eval x.2))
    (e:(F (b.toList.map λx=>(x.1,a.eval x.2)).toArray).run c.P w= .ok v.v w') (hs:Same w w') (g:K v w'.heap):Val c ⟨dst,o,type,pos,after,guard⟩ a w K:=by
  rw[ZnQ b a f d]at he;exact .of he e hs g
theorem ZrY{o:Op}{F:Array (Nat×Value)->Sem Value}{b:Array (Nat×Operand)}{f:Nat×Operand->Nat×Value}{v:EV}
    (he:execOp a.eval ⟨dst,o,type,pos,after,guard⟩=(do pure (.value (<-F (b.map f))))) (d:∀x,f x=(x.1,a.eval x.2))
    (e:∀w:World,True->(F (b.toList.map λx=>(x.1,a.eval x.2)).toArray).run c.P w= .ok v.v w) (g:K v h):ZfC c ⟨dst,o,type,pos,after,guard⟩ a h K:=by
  rw[ZnQ b a f d]at he;exact .of he e g
theorem Znj(f:Agr c.n e a){t:TypeId}{k:Array (Nat×Operand)}(b:opP c (.build t k) e h K):ZfC c ⟨dst,.build t k,type,pos,after,guard⟩ a h K:=by
  simp only[opP]at b;split at b
  ·rename_i fs zs hu hz;split at b
   ·rename_i l hl;obtain⟨g,b⟩:=Zgy b;obtain⟨i,b⟩:=Zpy b;refine ZrY (F:=Instr.build t) rfl (λ_=>rfl) (λw hw=>?_) b;exact ZmX c.P w t hu hz g (ZmF c.P fs.toList f zs.length hl i)
   ·exact b.elim
  ·rename_i n el zs hu hz;split at b
   ·rename_i l hl;obtain⟨d,b⟩:=Zgy b;obtain⟨j,m⟩:=Axc.1 d;refine ZrY (F:=Instr.build t) rfl (λ_=>rfl) (λw hw=>?_) b;exact Znz c.P w t hu hz m (ZjW (c.P.cellsOf el) f zs.length hl)
   ·exact b.elim
  ·exact b.elim
theorem ZoQ(d:Agr c.n e a){t:TypeId}{n:Nat}{f:Array (Nat×Operand)}(b:opP c (.buildSlice t n f) e w.heap K):Val c ⟨dst,.buildSlice t n f,type,pos,after,guard⟩ a w K:=by
  simp only[opP]at b;split at b
  ·rename_i el hu;split at b
   ·rename_i zs l hz hl;obtain⟨h1,b⟩:=Zgy b;obtain⟨g,b⟩:=Zgy b;have h:=ZoV c.P w t hu hz (Awg g) (Awt h1) (ZjW (c.P.cellsOf el) d _ hl);exact ZA4 (F:=Instr.buildSlice t n) (v:=.val (.slice (some ⟨w.heap.size,0,none⟩) n n)) rfl (λ_=>rfl) h ⟨rfl,rfl,rfl⟩ b
   ·exact b.elim
  ·exact b.elim
theorem Zqs(f:Agr c.n e a){t:TypeId}{x:Operand}(d:opP c (.load t x) e h K):ZtZ c ⟨dst,.load t x,type,pos,after,guard⟩ a h K:=by
  simp only[opP]at d;split at d
  ·rename_i v hv;obtain⟨b,o,g,d⟩:=Zju d;obtain⟨u,i,d⟩:=ZuB d;refine ZtZ.of (s:=Instr.loadAt t (a.eval x)) rfl (λw hw=>?_) d;rw[f.ev hv,g];exact Zpm (i w hw)
  ·exact d.elim
theorem ZjK(f:Agr c.n e a){x:Operand}(d:opP c (.nilCheck x) e h K):ZfC c ⟨dst,.nilCheck x,type,pos,after,guard⟩ a h K:=by
  simp only[opP]at d;split at d
  ·rename_i v hv;obtain⟨b,o,g,d⟩:=Zju d;refine⟨.adr b o,λw hw=>?_,d⟩;simp only[execOp,f.ev hv,g];rfl
  ·exact d.elim
theorem Zjq{op:BinOp}{t:TypeId}{x y:Operand}{u v:Value}(h:(∀cs,u≠ .agg cs)/\u≠ .nilIface):(eqGuard op t x y u v).run c.P w= .ok () w:=by
  unfold eqGuard
  cases op<;>first
    |rfl
    |(cases u<;>first|rfl|exact absurd rfl (h.1 _)|exact absurd rfl h.2)
theorem ZyO{op:BinOp}{x y:EV}{K:EV->Prop}(h:ZCh op x y K):(∀cs,x.v≠ .agg cs)/\x.v≠ .nilIface:=by
  unfold ZCh at h;split at h
  ·exact⟨λ_ h=>(by cases h),λh=>(by cases h)⟩
  ·exact⟨λ_ h=>(by cases h),λh=>(by cases h)⟩
  ·exact h.elim
theorem ZBp{d:Option TypeDesc}{neg:Bool}{x y:EV}{K:EV->Prop}(h:eqP d neg x y K):(∀cs,x.v≠ .agg cs)/\x.v≠ .nilIface:=by
  unfold eqP at h;split at h
  ·exact⟨λ_ h=>(by cases h),λh=>(by cases h)⟩
  ·exact⟨λ_ h=>(by cases h),λh=>(by cases h)⟩
  ·exact⟨λ_ h=>(by cases h),λh=>(by cases h)⟩
  ·exact⟨λ_ h=>(by cases h),λh=>(by cases h)⟩
  ·split at h
   ·rename_i a _;rw[a];exact⟨λ_ h=>(by cases h),λh=>(by cases h)⟩
   ·exact h.elim
  ·exact h.elim
theorem Zjo{P:Program}{t:TypeId}{x y:Value}{b:Bool}{d:Nat}{w:World}(h:Zjp (P.underlying t) x y=some b):Zck (P.underlying t)=false/\(P.underlying t).isSome=true/\(Op.equalIn (d+1) t x y).run P w= .ok b w:=by
  unfold Zjp at h;split at h
  ·rename_i g k a e c hu;split at h
   ·rename_i f;subst f;simp only[Awh]at h;subst h;rw[hu];exact⟨rfl,rfl,run_equalIn_int w d t _ _ _ _ hu⟩
   ·cases h
  ·rename_i a c hu;simp only[Awh]at h;subst h;rw[hu];exact⟨rfl,rfl,run_equalIn_string w d t _ _ hu⟩
  ·rename_i a c hu;simp only[Awh]at h;subst h;rw[hu];exact⟨rfl,rfl,run_equalIn_bool' w d t _ _ hu⟩
  ·cases h
theorem Zdh{P:Program}{w:World}{t:TypeId}{xs:Array Value}{off:Nat}{x:Value}(h1:Zck (P.underlying t)=false)(a:(P.underlying t).isSome=true)(b:xs[off]?=some x):(part t xs off).run P w= .ok x w:=by obtain⟨d,hu⟩:=Axc.1 a;rw[hu]at h1;unfold part;simp only[Awk,Zgk P w t hu,h1,Awl,Aqc,if_false,b];rfl
theorem Zjr{P:Program}{xs ys:Array Value}{d:Nat}{w:World}:∀{fs:List Field} {b:Bool},ZhF P fs xs.toList ys.toList=some b->(Op.eqFields (d+1) xs ys fs).run P w= .ok b w
  | [],b,h=>by
    simp only[ZhF,Awh]at h;subst h;rfl
  | f::fs,b,h=>by
    simp only[ZhF]at h
    cases c:f.name== "_" with
    |true=>rw[c]at h;cases h
    | false =>
      rw[c]at h;simp only[cond_false]at h;split at h
      ·rename_i x y k l;split at h
       ·rename_i a r m n;simp only[Awh]at h;subst h
        have e:f.name≠ "_" :=by
          intro he;rw[he]at c;simp at c
        have g:xs[f.offset]?=some x:=by simpa using k
        have i:ys[f.offset]?=some y:=by simpa using l
        obtain⟨h1,j,h3⟩:=Zjo (d:=d) (w:=w) m;simp only[Op.eqFields,e,ne_eq,not_false_eq_true,if_true,Awk,Zdh h1 j g,Zdh h1 j i,h3,Awl]
        cases a with
        |true=>simpa using Zjr n
        |false=>simp
       ·cases h
      ·cases h
theorem ZjR{P:Program}{w:World}{t:TypeId}{gs:Array Field}{xs:Array Value}{off:Nat}(hu:P.underlying t=some (.struct gs))(a:off+P.cellsOf t<=xs.size):
    (part t xs off).run P w= .ok (.agg ⟨(xs.toList.drop off).take (P.cellsOf t)⟩) w:=by
  obtain⟨i,hi⟩:=Zbf P hu;unfold part;simp only[Awk,Zgk P w t hu,Awl,Zck,if_true,Xo P w t hi,Awp];rw[Zcr P hi];congr 2;apply Axd;simp[List.take_drop,Nat.add_comm]
theorem Znx{P:Program}{w:World}{t el:TypeId}{n:Nat}{gs:Array Field}{cs:Array Value}{k:IntKind}{i:Int}(hu:P.underlying t=some (.array n el))(he:P.underlying el=some (.struct gs))(h0:0<=i)(h1:i<n)(hl:cs.toList.length=n*P.cellsOf el):
    (Instr.index t (.agg cs) (.int k i)).run P w= .ok (.agg ⟨(cs.toList.drop (i.toNat*P.cellsOf el)).take (P.cellsOf el)⟩) w:=by
  obtain⟨inf,hi⟩:=Zbf P he;have hs:P.cellsOf el=inf.size:=by unfold Program.cellsOf;rw[hi];rfl
  have a:i.toNat*P.cellsOf el+P.cellsOf el<=cs.size:=by
    have b:i.toNat+1<=n:=by omega
    have:=Aqz (P.cellsOf el) b;rw[Aqy,Nat.one_mul,<-hl]at this;simpa using this
  have:=ZjR (w:=w) (xs:=cs) he a;unfold Instr.index asIntOf;simp only[Awk,Awp,Awl,Zl P w t hu,if_pos (And.intro h0 h1),Xo P w el hi,<-hs];exact this
theorem Zip{P:Program}{xs ys:Array Value}{d:Nat}{w:World}:∀{fs:List Field} {b:Bool},Zg8 P fs xs.toList ys.toList=some b->(Op.eqFields (d+1+1) xs ys fs).run P w= .ok b w
  | [],b,h=>by
    simp only[Zg8,Awh]at h;subst h;rfl
  | f::fs,b,h=>by
    simp only[Zg8]at h
    cases g:f.name== "_" with
    |true=>rw[g]at h;cases h
    | false =>
      rw[g]at h;simp only[cond_false]at h
      have e:f.name≠ "_" :=by
        intro he;rw[he]at g;simp at g
      split at h
      ·rename_i gs hu
       cases c:P.stoodInHeld f.type with
       |true=>rw[c]at h;cases h
       | false =>
         rw[c]at h;simp only[cond_false]at h
         cases hle:(Nat.ble (f.offset+P.cellsOf f.type) xs.toList.length&&Nat.ble (f.offset+P.cellsOf f.type) ys.toList.length)with
         |false=>rw[hle]at h;cases h
         | true =>
           rw[hle]at h;simp only[cond_true]at h;simp only[Awn,Nat.ble_eq,Awa]at hle;split at h
           ·rename_i a r i j
            simp only[Awh]at h;subst h;have m:P.fieldsOf f.type=gs:=by unfold Program.fieldsOf;rw[hu]
            have h3:(Op.equalIn (d+1+1) f.type (.agg ⟨(xs.toList.drop f.offset).take (P.cellsOf f.type)⟩) (.agg ⟨(ys.toList.drop f.offset).take (P.cellsOf f.type)⟩)).run P w= .ok a w:=by
              rw[run_equalIn_agg w _ f.type _ _ (by rw[m];exact hu) c,m];exact Zjr i
            simp only[Op.eqFields,e,ne_eq,not_false_eq_true,if_true,Awk,ZjR hu hle.1,ZjR hu hle.2,h3,Awl]
            cases a with
            |true=>simpa using Zip j
            |false=>simp
           ·cases h
      ·rename_i u o;split at h
       ·rename_i x y p q;split at h
        ·rename_i a r i j
         simp only[Awh]at h;subst h;have k:xs[f.offset]?=some x:=by simpa using p
         have l:ys[f.offset]?=some y:=by simpa using q
         obtain⟨h1,n,h3⟩:=Zjo (d:=d+1) (w:=w) i;simp only[Op.eqFields,e,ne_eq,not_false_eq_true,if_true,Awk,Zdh h1 n k,Zdh h1 n l,h3,Awl]
         cases a with
         |true=>simpa using Zip j
         |false=>simp
        ·cases h
       ·cases h
theorem ZyE{P:Program}{t:TypeId}{fs:Array Field}{x y:EV}{K:Bool->Prop}(hu:P.underlying t=some (.struct fs))(a:eqS P t fs x y K):
    ∃(xs ys:Array Value) (b:Bool),x.v= .agg xs/\y.v= .agg ys/\P.eqGuardType P.depth t=false/\(∀w,(Op.equalIn 10000 t (.agg xs) (.agg ys)).run P w= .ok b w)/\K b:=by
  unfold eqS at a;split at a
  ·rename_i xs ys
   cases c:(P.stoodInHeld t||P.eqGuardType P.depth t)with
   |true=>rw[c]at a;exact a.elim
   | false=>
     rw[c]at a;simp only[cond_false]at a;rw[Bool.or_eq_false_iff]at c;split at a
     ·rename_i b e
      have d:P.fieldsOf t=fs:=by unfold Program.fieldsOf;rw[hu]
      refine⟨xs,ys,b,rfl,rfl,c.2,λw=>?_,a⟩;rw[show(10000:Nat)=9997+1+1+1 from rfl,run_equalIn_agg w _ t xs ys (by rw[d];exact hu) c.1,d];exact Zip e
     ·exact a.elim
  ·exact a.elim
theorem Zoo{op:BinOp}{t:TypeId}{x:Operand}{u:Value}{w:World}(h:∀cs,u≠ .agg cs):(eqGuard op t x (.const .nilIface) u .nilIface).run c.P w= .ok () w:=by
  unfold eqGuard
  cases op<;>first
    |rfl
    |(cases u<;>first|rfl|exact absurd rfl (h _)|(simp[Awp]))
theorem Znk(g:Agr c.n e a){op:BinOp}{t t':TypeId}{x y:Operand}(f:opP c (.binOp op t x y t') e h K):ZfC c ⟨dst,.binOp op t x y t',type,pos,after,guard⟩ a h K:=by
  have bin:∀{u v:EV},e.ev x=some u->e.ev y=some v->ZCh op u v (λv=>K v h)->ZfC c ⟨dst,.binOp op t x y t',type,pos,after,guard⟩ a h K:=by
    intro u v hu hv i;obtain⟨r,m,f⟩:=ZBy (P:=c.P) (t:=t) i;refine ZfC.of (s:=do eqGuard op t x y (a.eval x) (a.eval y);binOp op t (a.eval x) (a.eval y)) rfl (λw hw=>?_) f;rw[g.ev hu,g.ev hv];simp only[Awk,Zjq (ZyO i),Awl,m w]
  have o:∀{u v:EV} {neg:Bool},op=(bif neg then .neq else .eql)->e.ev x=some u->e.ev y=some v->eqP (c.P.underlying t) neg u v (λv=>K v h)->ZfC c ⟨dst,.binOp op t x y t',type,pos,after,guard⟩ a h K:=by
    rintro u v neg rfl hu hv i;obtain⟨r,m,f⟩:=ZEZ (P:=c.P) i;refine ZfC.of (s:=do eqGuard (bif neg then .neq else .eql) t x y (a.eval x) (a.eval y);binOp (bif neg then .neq else .eql) t (a.eval x) (a.eval y)) rfl (λw hw=>?_) f;rw[g.ev hu,g.ev hv];simp only[Awk,Zjq (ZBp i),Awl,m w]
  have k:∀{u:EV} {neg:Bool} {ms:Array (String×TypeId)} {l:TypeId},op=(bif neg then .neq else .eql)->c.P.underlying t=some (.interface ms)->e.ev x=some u->Zyd u.v (λb=>K (.val (.bool (bif neg then !b else b))) h)->ZfC c ⟨dst,.binOp op t x (.const .nilIface) l,type,pos,after,guard⟩ a h K:=by
    rintro u neg ms l rfl d hu i
    rcases i with⟨hv,i⟩ |⟨t2,C,hv,i⟩
    ·refine ZfC.of (s:=do eqGuard (bif neg then .neq else .eql) t x (.const .nilIface) (a.eval x) .nilIface;binOp (bif neg then .neq else .eql) t (a.eval x) .nilIface) rfl (λw hw=>?_) i;rw[g.ev hu,hv];have:=Zrb w d;cases neg<;>simp only[cond_true,cond_false,EV.v,binOp,Awk,Zoo (u:=Value.nilIface) (λ_ h=>(by cases h)),this,Awl]<;>rfl
    ·refine ZfC.of (s:=do eqGuard (bif neg then .neq else .eql) t x (.const .nilIface) (a.eval x) .nilIface;binOp (bif neg then .neq else .eql) t (a.eval x) .nilIface) rfl (λw hw=>?_) i;rw[g.ev hu,hv];have:=Zon w d t2 C;cases neg<;>simp only[cond_true,cond_false,EV.v,binOp,Awk,Zoo (u:=Value.iface t2 C) (λ_ h=>(by cases h)),this,Awl]<;>rfl
  have j:∀{u:EV} {neg:Bool} {p rs:Array TypeId} {q:Bool} {l:TypeId},op=(bif neg then .neq else .eql)->c.P.underlying t=some (.func p rs q)->e.ev x=some u->Zye u.v (λb=>K (.val (.bool (bif neg then !b else b))) h)->ZfC c ⟨dst,.binOp op t x (.const .nilFunc) l,type,pos,after,guard⟩ a h K:=by
    rintro u neg p rs q l rfl d hu i
    rcases i with⟨hv,i⟩ |⟨f2,D,b2,hv,i⟩
    ·refine ZfC.of (s:=do eqGuard (bif neg then .neq else .eql) t x (.const .nilFunc) (a.eval x) .nilFunc;binOp (bif neg then .neq else .eql) t (a.eval x) .nilFunc) rfl (λw hw=>?_) i;rw[g.ev hu,hv];have:=Zo4 w d;cases neg<;>simp only[cond_true,cond_false,EV.v,binOp,Awk,Zjq (u:=Value.nilFunc) ⟨λ_ h=>(by cases h),λh=>(by cases h)⟩,this,Awl]<;>rfl
    ·refine ZfC.of (s:=do eqGuard (bif neg then .neq else .eql) t x (.const .nilFunc) (a.eval x) .nilFunc;binOp (bif neg then .neq else .eql) t (a.eval x) .nilFunc) rfl (λw hw=>?_) i;rw[g.ev hu,hv];have:=Zo5 w d f2 D b2;cases neg<;>simp only[cond_true,cond_false,EV.v,binOp,Awk,Zjq (u:=Value.func f2 D b2) ⟨λ_ h=>(by cases h),λh=>(by cases h)⟩,this,Awl]<;>rfl
  simp only[opP]at f;split at f
  ·rename_i u v hu hv;split at f
   ·exact bin hu hv f
   ·exact bin hu hv f
   ·exact bin hu hv f
   ·exact bin hu hv f
   ·rename_i fs d;obtain⟨xs,ys,b,z,A,B,m,f⟩:=ZyE d f;refine ZfC.of (v:=.val (.bool b)) (s:=do eqGuard .eql t x y (a.eval x) (a.eval y);binOp .eql t (a.eval x) (a.eval y)) rfl (λw hw=>?_) f;rw[g.ev hu,g.ev hv,z,A];simp only[Awk,run_eqGuard_agg w .eql t x y xs ys B,Awl,run_eql_struct,m w];rfl
   ·rename_i fs d;obtain⟨xs,ys,b,z,A,B,m,f⟩:=ZyE d f;refine ZfC.of (v:=.val (.bool (!b))) (s:=do eqGuard .neq t x y (a.eval x) (a.eval y);binOp .neq t (a.eval x) (a.eval y)) rfl (λw hw=>?_) f;rw[g.ev hu,g.ev hv,z,A];simp only[Awk,run_eqGuard_agg w .neq t x y xs ys B,Awl,run_neq_struct,m w];rfl
   ·rename_i ms d;split at f
    ·exact k (neg:=false) rfl d hu f
    ·exact f.elim
   ·rename_i ms d;split at f
    ·exact k (neg:=true) rfl d hu f
    ·exact f.elim
   ·rename_i p rs q d;split at f
    ·exact j (neg:=false) rfl d hu f
    ·exact f.elim
   ·rename_i p rs q d;split at f
    ·exact j (neg:=true) rfl d hu f
    ·exact f.elim
   ·exact o (neg:=false) rfl hu hv f
   ·exact o (neg:=true) rfl hu hv f
   ·exact bin hu hv f
  ·exact f.elim
theorem Zqo(d:Agr c.n e a){op:UnOp}{t:TypeId}{x:Operand}(f:opP c (.unOp op t x) e h K):ZfC c ⟨dst,.unOp op t x,type,pos,after,guard⟩ a h K:=by
  simp only[opP]at f;split at f
  ·rename_i b hv;refine⟨_,λw hw=>?_,f⟩;simp only[execOp,d.ev hv,EV.v];rfl
  ·rename_i b hv;refine⟨_,λw hw=>?_,f⟩;simp only[execOp,d.ev hv,EV.v];rfl
  ·rename_i k n hv;refine⟨_,λw hw=>?_,f⟩;simp only[execOp,d.ev hv,EV.v];rfl
  ·exact f.elim
theorem ZjM(f:Agr c.n e a){s d:TypeId}{x:Operand}{j k:IntKind}(hs:c.P.underlying s=some (.int j))(hd:c.P.underlying d=some (.int k))(b:opP c (.convert s d x) e h K):
    ZfC c ⟨dst,.convert s d x,type,pos,after,guard⟩ a h K:=by
  simp only[opP,hs,hd]at b;split at b
  ·rename_i i l n h1 g hv;cases g;refine ZfC.of (s:=convert s d (a.eval x)) rfl (λw hw=>?_) b;rw[f.ev hv];exact ZjT hs hd
  all_goals first
    |exact b.elim
    |(rename_i h1 _ _;cases h1)
    |(rename_i h1 _;cases h1)
    |(rename_i h1;cases h1)
theorem Ztj(g:Agr c.n e a){s d:TypeId}{x:Operand}(f:opP c (.convert s d x) e w.heap K):Val c ⟨dst,.convert s d x,type,pos,after,guard⟩ a w K:=by
  simp only[opP]at f;split at f
  ·rename_i j k B n hs hd hv;refine .of (s:=convert s d (a.eval x)) rfl ?_ (Same.refl w) f;rw[g.ev hv];exact ZjT hs hd
  ·rename_i y hs hd hv;refine .of (s:=convert s d (a.eval x)) rfl ?_ (Same.refl w) f;rw[g.ev hv];exact Zlu hs hd
  ·rename_i el y hs hd hv;split at f
   ·rename_i he;obtain⟨r,w',i,q,f⟩:=ZD2 (P:=c.P) f;refine .of (v:=.val (.slice r.ptr r.len r.cap)) (s:=convert s d (a.eval x)) rfl ?_ q f;rw[g.ev hv];exact(Zny hs hd he).trans i
   ·exact f.elim
  ·rename_i el p l m hs hd hv;split at f
   ·rename_i he;obtain⟨r,i,f⟩:=Ztq (P:=c.P) f;refine .of (v:=.val (.string r)) (s:=convert s d (a.eval x)) rfl ?_ (Same.refl w) f;rw[g.ev hv];exact(ZjU hs hd he).trans i
   ·exact f.elim
  ·rename_i C el p l m hs hd hv;split at f
   ·rename_i he;obtain⟨u,z⟩:=Zgy f;clear f;have h:=Awg u;subst h;obtain⟨b,o,D,t,rfl,A,f⟩:=z;refine .of (v:=.val (.slice (some ⟨b,o,none⟩) l m)) (w':={w with heap:=Zf.frz w.heap b}) (s:=convert s s (a.eval x)) rfl ?_ ⟨rfl,rfl,rfl⟩ f;rw[g.ev hv];exact ZmW hs hd he A
   ·exact f.elim
  ·exact f.elim
theorem Zqr(d:Agr c.n e a){t:TypeId}{x y:Operand}(b:opP c (.makeSlice t x y) e w.heap K):Val c ⟨dst,.makeSlice t x y,type,pos,after,guard⟩ a w K:=by
  simp only[opP]at b;split at b
  ·rename_i el k l r m hu o p;split at b
   ·rename_i size bytes zs hs hz;obtain⟨hlen,g⟩:=Zgy b;clear b;obtain⟨h0,h1,q,h3,h⟩:=g;obtain⟨i,z,hi,j,rfl⟩:=ZeA hz;obtain⟨u,f,rfl,rfl⟩:=ZfK hs;rw[hi]at f;cases f;refine .of (v:=.val (.slice (some ⟨w.heap.size,0,none⟩) l.toNat m.toNat)) (w':={w with heap:=w.heap.push (.cells (XR z.cells.toList m.toNat).toArray el)}) (s:=Instr.makeSlice t (a.eval x) (a.eval y)) rfl ?_ ⟨rfl,rfl,rfl⟩ h;rw[d.ev o,d.ev p];exact ZqF hu hi j (by have:=Awg hlen;simpa using this) h0 h1 q h3
   ·exact b.elim
  ·exact b.elim
end
end Go.Fw
