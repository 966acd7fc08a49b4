/- A value that is read is written in so many bytes at most. No program. -/
import Derived.ChangeArms
import Derived.JoinedCond
import Derived.LaidLaws
import Derived.Lib.AtoiAllCases
import Derived.Lib.ItoaNum
import Derived.Lib.ItoaLen
import Derived.Lib.AtoiAll
import Derived.Test.YtpjbjdheeemdiaaGreatDoorPa11
set_option linter.unusedVariables false
set_option linter.unusedSimpArgs false
namespace Go.Js
open Go
def nsW:List BL->Nat
  | []=>0
  | n::l=>6*n.length+3+nsW l
def pw:JL->Nat
  | .nil=>0
  | .cons _ t ns sub rest=>9+6*t.length+nsW ns+pw sub+pw rest
def wV (v:JV):Nat:=9+6*v.t.length+nsW v.ns+pw v.sub
theorem Zq6 (v:JV):∀ l:JL,pw (l.snoc v)=pw l+wV v
  | .nil=>by simp [JL.snoc,pw,wV]
  | .cons _ _ _ _ r=>by simp only [JL.snoc,pw,Zq6 v r];omega
theorem Zw9 (a:BL):∀ l:List BL,nsW (l++[a])=nsW l+(6*a.length+3)
  | []=>by simp [nsW]
  | n::l=>by simp only [Ayp,nsW,Zw9 a l];omega
theorem Zrf {n:BL}:∀ {l:List BL},n∈l->n.length<=nsW l
  | [],h=>by cases h
  | m::l,h=>by
    rcases Awr.1 h with rfl | h
    ·simp only [nsW];omega
    ·have:=Zrf h;simp only [nsW];omega
theorem ZrB (c:UInt8):(ZMo c).length<=6:=by
  unfold ZMo
  split
  ·simp
  split
  ·simp
  split
  ·simp
  split
  ·simp
  split
  ·simp
  split
  ·simp
  split<;>simp
theorem Zrz:∀ (l:JL),pw l<9223372036854775807->ZFw l
  | .nil,_=>trivial
  | .cons _ t ns sub rest,h=>by
    simp only [pw] at h
    exact ⟨by omega,fun n hn=>by have:=Zrf hn;omega,Zrz sub (by omega),Zrz rest (by omega)⟩
theorem ZDw {v:JV} (h:wV v<9223372036854775807):ZFx v:=by
  unfold wV at h
  exact ⟨by omega,fun n hn=>by have:=Zrf hn;omega,Zrz _ (by omega)⟩
theorem ZnP (n:Nat):(Zhr n).length<=4:=by
  unfold Zhr
  split
  ·simp
  split
  ·simp
  split<;>simp
theorem ZCz {l o r:BL} (h:ZEJ l = .ok o r):o.length+r.length<=l.length:=by
  rw [Zit] at h
  obtain ⟨n,l1,h1,h2⟩:=Xb h
  have hl:=(Ze1 4 h1).1
  split at h2
  ·rename_i l2 hb
   obtain ⟨m,l3,h3,h4⟩:=Xb h2
   have hl3:=(Ze1 4 h3).1
   have hl2:l1.length=l2.length+2:=by
     split at hb
     ·rw [ZeC hb];rfl
     ·cases hb
   split at h4
   ·injection h4 with e1 e2
    have:o.length<=4:=by rw [<- e1];exact ZnP _
    rw [<- e2]
    omega
   ·injection h4 with e1 e2
    have:o.length<=4:=by rw [<- e1];exact ZnP _
    rw [<- e2]
    omega
  ·injection h2 with e1 e2
   have:o.length<=4:=by rw [<- e1];exact ZnP _
   rw [<- e2]
   omega
theorem Zz0 {l o r:BL} (h:ZrC l = .ok o r):o.length+r.length<=l.length:=by
  rcases l with _ | ⟨c,l⟩
  ·cases h
  ·rw [Zgv] at h
   split at h
   ·cases h;simp;omega
   ·split at h
    ·have:=ZCz h;simp;omega
    ·cases h
theorem ZrY {l r:BL} (h:r <:+l):(upto l r).length+r.length=l.length:=by
  obtain ⟨x,rfl⟩:=h
  rw [ZfI];simp
theorem Zi3:∀ (n:Nat) (out l t r:BL),Ziu n out l = .ok t r->t.length+r.length+1<=out.length+l.length
  | 0,_,_,_,_,h=>by cases h
  | n+1,_,[],_,_,h=>by cases h
  | n+1,out,c::l,t,r,h=>by
    rw [ZjG] at h
    split at h
    ·cases h
    split at h
    ·cases h;simp;omega
    split at h
    ·obtain ⟨o,l2,h1,h2⟩:=Xb h
     have:=Zz0 h1
     have:=Zi3 n _ _ _ _ h2
     simp at this ⊢
     omega
    split at h
    ·have:=Zi3 n _ _ _ _ h
     simp at this ⊢
     omega
    ·obtain ⟨o,l2,h1,h2⟩:=Xb h
     have h3:=ZrY (Zeo h1).2
     have h4:=Zi3 n _ _ _ _ h2
     simp only [Awe] at h4
     omega
theorem Zsa {l t r:BL} (h:ZnW l = .ok t r):t.length+r.length+1<=l.length:=by
  have:=Zi3 _ _ _ _ _ h
  simpa using this
theorem Zxd {l nm r:BL} (h:Zji l = .ok nm r):nm.length+r.length+3<=l.length:=by
  have hs:=ZfK l
  unfold Zji at h
  split at h
  ·rename_i c l1 e
   rw [e] at hs
   split at h
   ·obtain ⟨t,l2,h1,h2⟩:=Xb h
    have h3:=Zsa h1
    have h4:=ZfK l2
    split at h2
    ·rename_i d l3 e2
     rw [e2] at h4
     split at h2
     ·cases h2
      simp only [Aqj] at hs h4
      omega
     ·cases h2
    ·cases h2
   ·cases h
  ·cases h
theorem ZE0 {pv:BL->Out JV} (hv:∀ l v r,pv l = .ok v r->wV v+16*r.length<=16*l.length) {ob:Bool} {ns:List BL} {sub:JL} {l:BL} {q:List BL × JL} {w:BL} (hq:ZcW pv ob ns sub l = .ok q w) :
    nsW q.1+pw q.2+16*w.length<=nsW ns+pw sub+16*l.length:=by
  unfold ZcW at hq
  split at hq
  ·obtain ⟨nm,l3,h1,h2⟩:=Xb hq
   obtain ⟨v,l4,h3,h4⟩:=Xb h2
   cases h4
   have a:=Zxd h1
   have b:=hv _ _ _ h3
   have c:=ZfK l4
   dsimp only
   rw [Zq6,Zw9]
   omega
  ·obtain ⟨v,l4,h3,h4⟩:=Xb hq
   cases h4
   have b:=hv _ _ _ h3
   have c:=ZfK l4
   have d:=ZfK l
   dsimp only
   rw [Zq6]
   omega
theorem ZAL {pv:BL->Out JV} (hv:∀ l v r,pv l = .ok v r->wV v+16*r.length<=16*l.length) (ob:Bool):∀ (m:Nat) (ns:List BL) (sub:JL) (l:BL) (p:List BL × JL) (r:BL),
    Zgs pv ob m ns sub l = .ok p r->nsW p.1+pw p.2+16*r.length<=nsW ns+pw sub+16*l.length
  | 0,_,_,_,_,_,h=>by cases h
  | m+1,ns,sub,l,p,r,h=>by
    have go:∀ l',l'.length<=l.length->((ZcW pv ob ns sub l').bind fun p l2=>Zgs pv ob m p.1 p.2 l2) = .ok p r->nsW p.1+pw p.2+16*r.length<=nsW ns+pw sub+16*l.length:=fun l' hl hq=>by
      obtain ⟨q,w,h1,h2⟩:=Xb hq
      have a:=ZE0 hv h1
      have b:=ZAL hv ob m _ _ _ _ _ h2
      omega
    unfold Zgs at h
    split at h
    ·cases h;dsimp only;have:=l.length_tail;omega
    split at h
    ·exact go _ (Aqo _) h
    split at h
    ·exact go _ (by simp) h
    ·cases l<;>cases h
theorem ZrX {op:Bool->BL->Out JV} (hop:∀ b c l v r,op b (c::l) = .ok v r->wV v+16*r.length<=16*(c::l).length):∀ l v r,Zig op l = .ok v r->wV v+16*r.length<=16*l.length:=by
  intro l v r h
  have hsk:=ZfK l
  unfold Zig at h
  split at h
  ·cases h
  ·rename_i c l1 e
   rw [e] at hsk
   simp only [Aqj] at hsk
   split at h
   ·have:=hop _ _ _ _ _ h;simp only [Aqj] at this;omega
   split at h
   ·have:=hop _ _ _ _ _ h;simp only [Aqj] at this;omega
   split at h
   ·obtain ⟨t,r1,h1,h2⟩:=Xb h
    cases h2
    have hl:=Zsa h1
    simp only [wV,nsW,pw]
    omega
   split at h
   ·obtain ⟨t,r1,h1,h2⟩:=Xb h
    cases h2
    have hl:=(Zfe [110,117,108,108] (by decide)).2.len h1
    simp only [wV,nsW,pw,Ays,Aqj] at hl ⊢
    omega
   split at h
   ·obtain ⟨t,r1,h1,h2⟩:=Xb h
    cases h2
    have hl:=(Zfe [102,97,108,115,101] (by decide)).2.len h1
    simp only [wV,nsW,pw,Ays,Aqj] at hl ⊢
    omega
   split at h
   ·obtain ⟨t,r1,h1,h2⟩:=Xb h
    cases h2
    have hl:=(Zfe [116,114,117,101] (by decide)).2.len h1
    simp only [wV,nsW,pw,Ays,Aqj] at hl ⊢
    omega
   split at h
   ·obtain ⟨t,r1,h1,h2⟩:=Xb h
    cases h2
    have hl:=ZAF.len h1
    have hu:=ZrY (Zst h1)
    simp only [wV,nsW,pw,Aqj] at hl hu ⊢
    omega
   ·cases h
theorem Zv6:∀ (d:Nat) (l:BL) (v:JV) (r:BL),Zbb d l = .ok v r->wV v+16*r.length<=16*l.length
  | 0,l,v,r,h=>ZrX (op:=fun _ l=>Za1 23 l) (fun b c l v r h=>by cases h) l v r h
  | d+1,l,v,r,h=>by
    refine ZrX (op:=Zra (Zbb d)) (fun b c l v r h=>?_) l v r h
    obtain ⟨p,q,h1,h2⟩:=Xb h
    cases h2
    have hs:=ZfK l
    have a:=ZAL (Zv6 d) b _ _ _ _ _ _ h1
    have hs':(Za3 (c::l).tail).length<=l.length:=hs
    simp only [wV,nsW,pw,Ays,Aqj] at a ⊢
    omega
theorem ZCT {l:BL} {v:JV} (h:Zer l = .ok v):wV v<=1048576:=by
  by_cases hl:l.length<=65536
  ·rw [Zof hl] at h
   cases h1:Zbb 64 l with
   | err k q=>rw [h1] at h;cases h
   | ok w r =>
     rw [h1] at h
     simp only at h
     have:=Zv6 64 l w r h1
     split at h
     ·cases h;omega
     ·cases h
  ·rw [ZjQ (by omega)] at h;cases h
end Go.Js
namespace Go.Proofs.YtpjbjdheeemdiaaGreatDoor
open Go Go.Fw Go.Js Go.ChangeShapes Go.WideShapes
theorem Zi8 {h:Zc} {x:Sl} {n:Nat} {vs:List Value} (hr:Row h x n vs) (hn:0<n):inS (fun b=>b<sz h) x:=by
  intro h0 b hb
  rcases hr.at_ with hz | ⟨b',o,hp,hh⟩
  ·exact absurd hz h0
  ·have:b'=b:=by unfold Sl.blk at hb;rw [hp] at hb;simpa using hb
   subst this
   refine ZAQ hh fun e=>?_
   have hl:=hr.len
   rw [e] at hl
   have:x.len*n≠0:=Nat.mul_ne_zero h0 (by omega)
   exact this (by rw [<- hl];rfl)
theorem ZxD {α:Type} {l:List α} {i:Nat} {x:α} (h:l[i]?=some x):i<l.length:=(Azj.1 h).1
theorem ZeM {α:Type} {f:α->List Value} {n:Nat} (hf:∀ a,(f a).length=n):∀ l:List α,(l.flatMap f).length=l.length*n
  | []=>by simp
  | a::l=>by rw [Azn,Awe,hf,ZeM hf l,Aqj,Awx];omega
theorem ZlK {α:Type} {f:α->List Value} {n:Nat} (hf:∀ a,(f a).length=n):∀ (l:List α) (i m:Nat) (a:α),l[i]?=some a->m<n->(l.flatMap f)[i*n+m]?=(f a)[m]?
  | [],i,m,a,h,_=>by simp at h
  | x::l,0,m,a,h,hm=>by
    simp at h
    subst h
    rw [Azn,Aqs,Awb,Awu (by rw [hf];exact hm)]
  | x::l,i+1,m,a,h,hm=>by
    rw [Azn,Aww (by rw [hf,Awx];omega),hf,show (i+1)*n+m - n=i*n+m by rw [Awx];omega]
    exact ZlK hf l i m a (by simpa using h) hm
theorem Zwx {α:Type} (f:α->Nat):∀ l:List α,(l.map fun x=>16*f x).sum=16*(l.map f).sum
  | []=>rfl
  | x::l=>by rw [Awo,Azo,Zwx f l,Awo,Azo];omega
theorem ZAt {α:Type} {f g:α->Nat}:∀ {l:List α},(∀ x∈l,f x<=g x)->(l.map f).sum<=(l.map g).sum
  | [],_=>Aqo _
  | x::l,h=>by
    have:=h x (by simp)
    have:=ZAt (l:=l) fun y hy=>h y (Aws _ hy)
    simp only [Awo,Azo];omega
theorem Zs6 {H:Type} {d:DataW H}:∀ {l:List (DataW H)},d∈l->Rows.uptoBulk d<=Rows.uptoBulkAll l
  | [],h=>by cases h
  | x::l,h=>by
    simp only [Rows.uptoBulkAll]
    rcases Awr.1 h with rfl | h
    ·omega
    ·have:=Zs6 h;omega
theorem Zs5 {H:Type} (D:Nat->DataW H):∀ l:List Nat,Rows.uptoBulkAll (l.map D)=(l.map fun i=>Rows.uptoBulk (D i)).sum
  | []=>rfl
  | x::l=>by simp only [Awo,Rows.uptoBulkAll,Azo,Zs5 D l]
section
variable {H:Type} {enc:TypeId × Value->H} {P:Program} {w:World} {base:Nat} {spare:Nat->Bool} {held:Bool}
theorem ZDx {fs:Array Field} {l:List (TypeId × Nat)} (hf:fs.toList.map (fun f=>(f.type,f.offset))=l) {i:Nat} {p:TypeId × Nat} (hp:l[i]?=some p):∃ f,fs[i]?=some f/\f.type=p.1/\f.offset=p.2:=by
  subst hf
  rw [Awz,Ayc] at hp
  obtain ⟨f,h1,rfl⟩:=hp
  exact ⟨f,by simpa using h1,rfl,rfl⟩
theorem Zg5 {α:Type} [Inhabited α] {g:α->List Value} {n:Nat} (hg:∀ a,(g a).length=n) (hn:0<n) {Pa:α->Prop} {μ:α->Nat} {u t:TypeId} {fuel N:Nat} {a:Option Addr} {len cap:Nat} {x:DataW H × List MemPlace} (hu:P.underlying u=some (.slice t)) (hc:P.cellsOf t=n)
    (elem:∀ {fuel:Nat} {cs:List Value} {y:DataW H × List MemPlace},Rows.uptoBulk y.1<N->DataW.trod enc P w base spare held fuel t cs=some y->∃ a:α,cs=g a/\Pa a/\μ a<=16*Rows.uptoBulk y.1)
    (hN:Rows.uptoBulk x.1<=N) (h:DataW.trod enc P w base spare held fuel u [.slice a len cap]=some x):∃ l:List α,(Row w.heap ⟨a,len,cap⟩ n (l.flatMap g)/\∀ a,a∈l->Pa a)/\(l.map μ).sum+16<=16*Rows.uptoBulk x.1:=by
  rcases Deep.open_slice hu h with ⟨hcs,rfl⟩ | ⟨a',len',cap',m,n',D,Pl,hcs,_,hl,hm,hmm,rfl,hx⟩
  ·simp at hcs
   obtain ⟨rfl,rfl,rfl⟩:=hcs
   exact ⟨[],⟨Row.nil _ n,by simp⟩,by simp [Rows.uptoBulk]⟩
  ·simp at hcs
   obtain ⟨rfl,rfl,rfl⟩:=hcs
   have hlen:len<=m:=by rw [hmm];split<;>omega
   have hbig:cap<9223372036854775808:=Zxi hm
   have each:∀ i,i<len->∃ a:α,w.cells? base (a'.add (i*n)) n=some (g a)/\Pa a/\μ a<=16*Rows.uptoBulk (D i):=by
     intro i hi
     obtain ⟨cs',h1,h2⟩:=hx i (by omega)
     rw [hc] at h1
     obtain ⟨r,rfl,hp,hb⟩:=elem (by
       have:=Zs6 (d:=D i) (l:=(List.range len).map D) (Ayw.2 ⟨i,by simpa using hi,rfl⟩)
       simp only [Rows.uptoBulk] at hN ⊢
       omega) h2
     exact ⟨r,h1,hp,hb⟩
   obtain ⟨f,hf⟩:=Deep.choose_lt each
   have cell:∀ i,i<len->∀ k,k<n->w.cell? ((a'.add (i*n)).add k)=(g (f i))[k]?:=fun i hi k hk=>(World.cells?_some (hf i hi).1).2.2 k hk
   refine ⟨(List.range len).map f,⟨⟨by rw [ZeM hg];simp,hl,hbig,?_⟩,fun a ha=>?_⟩,?_⟩
   ·rcases Aqw len with h0 | h0
    ·exact .inl h0
    ·right
     have hsp:a'=⟨a'.block,a'.off,none⟩:=by
       have h0:=cell 0 (by omega) 0 hn
       have e0:(a'.add (0*n)).add 0=a':=by rw [Aqs];rfl
       rw [e0,Ayb (by rw [hg];exact hn)] at h0
       exact Zwy h0
     refine ⟨a'.block,a'.off,by rw [<- hsp],ZsM fun k v hv=>?_⟩
     have hk:k<len*n:=by
       have:=ZxD hv
       rw [ZeM hg] at this
       simpa using this
     have hdm:=Nat.div_add_mod k n
     have hi:k / n<len:=(Nat.div_lt_iff_lt_mul hn).2 hk
     have hj:k % n<n:=Nat.mod_lt _ hn
     have e1:=ZlK hg ((List.range len).map f) (k / n) (k % n) (f (k / n)) (by rw [Awz,List.getElem?_range hi];rfl) hj
     have ek:k / n*n+k % n=k:=by rw [Azd];exact hdm
     rw [ek,hv] at e1
     have:=cell (k / n) hi (k % n) hj
     rw [hsp,Ztb,Ztb,ZiQ,<- e1] at this
     rw [<- ek,<- Aqh]
     exact this
   ·obtain ⟨i,hi,rfl⟩:=Ayw.1 ha
    exact (hf i (by simpa using hi)).2.1
   ·have h1:((List.range len).map fun i=>μ (f i)).sum<=((List.range len).map fun i=>16*Rows.uptoBulk (D i)).sum:=ZAt fun i hi=>(hf i (by simpa using hi)).2.2
    rw [Zwx] at h1
    simp only [Rows.uptoBulk,Azp,Zs5]
    have:((List.range len).map (μ ∘ f)).sum=((List.range len).map fun i=>μ (f i)).sum:=rfl
    omega
end
def ZcL:List JV->JL
  | []=> .nil
  | v::l=> .cons v.k v.t v.ns v.sub (ZcL l)
theorem Zzl:∀ l:List JV,pw (ZcL l)=(l.map wV).sum
  | []=>rfl
  | v::l=>by simp only [ZcL,pw,Awo,Azo,Zzl l,wV]
theorem Zsv:∀ l:List BL,nsW l=(l.map fun n=>6*n.length+3).sum
  | []=>rfl
  | v::l=>by simp only [nsW,Awo,Azo,Zsv l]
section
variable {H:Type} {enc:TypeId × Value->H} {P:Program} {w:World} {base:Nat} {spare:Nat->Bool} {held:Bool}
theorem ZxQ:∀ l:List BL,l.flatMap (fun n=>[sV n])=l.map sV
  | []=>rfl
  | a::l=>by rw [Azn,ZxQ l];rfl
theorem Zn9 {a:Assume} {C:Checked} {os:Os} {f:FuncId} {fn:Func} {s:OpenSpec} {k:(H:Type)->List (DataW H)->Bool} (hk:s.cond=some k) {F:Stop.Interp} {conds:List PathCond} {apart fresh handsOn again:Bool} {X:World->Array Value->Prop}
    (hX:∀ (w w':World) (args:Array Value),w.heap=w'.heap->X w args->X w' args)
    (own:ownKnob C.prog.godebug=none) (started:os.Started) (noInit:C.prog.inits.idxOf? f=none) (hfn:C.prog.funcs[f]?=some fn)
    (witness:∃ (w:World) (tape:Tape) (i:Input),w.os=os/\(w.forCall tape i).Shaped C.prog/\i.vars=[]/\Input.okWide C.prog (w.forCall tape i) .any w.heap.size f i /\
      ((s.pre enc C.prog fn conds apart (w.forCall tape i).memory i.args/\X (w.forCall tape i).memory i.args)/\sizedMet enc C.prog fn s apart (w.forCall tape i).memory i.args)/\a.holds C.prog (lone (Frame.enter C.prog f i.args .normal) [] (w.forCall tape i)))
    (contract:∀ (W:World) (base:Nat) (args:Array Value) (ds gs:List (DataW H)) (before:List MemPlace),
      (∀ (j:Nat) t v,fn.params[j]?=some t->args[j]?=some v->Value.okWide C.prog W .any base t v) ->
      DataW.Whole enc C.prog fn.params.toList s.vars apart W args.toList ds gs before->k H (ds++gs)=true->X W args->W.ShapedOpen C.prog ->
      Calls C.prog f args W fun e W'=>∃ v,e = .returned v/\(s.at F).post enc C.prog fn apart fresh handsOn again W args v W') :
    ReturnsInHanded a C os f .any (fun w args=>(s.pre enc C.prog fn conds apart w args/\X w args)/\sizedMet enc C.prog fn s apart w args) ((s.at F).post enc C.prog fn apart fresh handsOn again):=by
  refine returnsInHanded_of_calls own started noInit witness ?_
  intro w tape i _ hsh _ hok hpre _
  obtain ⟨_,_,_,fn',hfn',_,_,_,_,hval⟩:=hok
  have e:fn'=fn:=Option.some.inj (hfn'.symm.trans hfn)
  subst e
  obtain ⟨⟨hp,hx⟩,_⟩:=hpre
  obtain ⟨ds,gs,before,hw,_,hkk⟩:=(OpenSpec.pre_some hk conds apart _ _).1 hp
  have hw':=DataW.Whole.of_heap (w':=w.forCall tape i) (by rfl) hw
  refine (contract (w.forCall tape i) w.heap.size i.args ds gs before hval hw' hkk (hX _ _ _ (by rfl) hx) hsh).mono fun e W' ⟨v,he,hp⟩=>?_
  subst he
  exact ChangeSpec.post_blind hp
theorem ZnF {C:Checked} {os:Os} {f:FuncId} {fn:Func} {s:OpenSpec} {k:(H:Type)->List (DataW H)->Bool} (hk:s.cond=some k) {conds:List PathCond} {apart:Bool} {X:World->Array Value->Prop} (modest:Bool) (w0:World) (args:Array Value) (fuel:Nat) (hos:w0.os=os)
    (hsh:(w0.forCall (fun _ _=>0) ⟨#[],args,[]⟩).Shaped C.prog)
    (hok:Input.okWideB C.prog (w0.forCall (fun _ _=>0) ⟨#[],args,[]⟩) f ⟨#[],args,[]⟩=true)
    {x:List (DataW H) × List (DataW H) × List MemPlace} (hx:DataW.whole enc C.prog (w0.forCall (fun _ _=>0) ⟨#[],args,[]⟩).memory fn.params.toList s.vars apart args.toList fuel=some x)
    (hconds:conds.all (PathCond.test C.prog ⟨fn.params.toList,x.1,s.bare.plain.varTypes C.prog,x.2.1⟩)=true) (hkk:k H (x.1++x.2.1)=true)
    (hsz:s.bare.sizedB enc C.prog fn apart (w0.forCall (fun _ _=>0) ⟨#[],args,[]⟩).memory args fuel=true)
    (hX:X (w0.forCall (fun _ _=>0) ⟨#[],args,[]⟩).memory args) :
    ∃ (w:World) (tape:Tape) (i:Input),w.os=os/\(w.forCall tape i).Shaped C.prog/\i.vars=[]/\Input.okWide C.prog (w.forCall tape i) .any w.heap.size f i /\
      ((s.pre enc C.prog fn conds apart (w.forCall tape i).memory i.args/\X (w.forCall tape i).memory i.args)/\sizedMet enc C.prog fn s apart (w.forCall tape i).memory i.args)/\({ modest:=modest }:Assume).holds C.prog (lone (Frame.enter C.prog f i.args .normal) [] (w.forCall tape i)) :=
  ⟨w0,fun _ _=>0,⟨#[],args,[]⟩,hos,hsh,(Input.okWide_of_okWideB (base:=0) hok).1,(Input.okWide_of_okWideB hok).2,
    ⟨⟨(OpenSpec.pre_some hk conds apart _ _).2 ⟨x.1,x.2.1,x.2.2,DataW.Whole_of_whole hx,hconds,hkk⟩,hX⟩,sizedMet_of_sizedB hsz⟩,by
    simp only [Assume.holds]
    exact ⟨by simp,by simp,fun _=>Modest.zero,by simp,by simp⟩⟩
end
end Go.Proofs.YtpjbjdheeemdiaaGreatDoor
namespace Go.Js
open Go
def Dg (l:BL):Prop:=∀ c∈l,ZdP c=true
theorem Dg.nil:Dg []:=fun _ h=>by cases h
theorem Dg.cons {c:UInt8} {l:BL} (hc:ZdP c=true) (h:Dg l):Dg (c::l):=fun d hd=>by
  rcases Awr.1 hd with rfl | hd
  ·exact hc
  ·exact h d hd
theorem Dg.app {a b:BL} (ha:Dg a) (hb:Dg b):Dg (a++b):=fun d hd=>by
  rcases Axz.1 hd with hd | hd
  ·exact ha d hd
  ·exact hb d hd
theorem ZhG {c:UInt8}:ZdP c=true↔48<=c.toNat/\c.toNat<=57:=by unfold ZdP;simp
theorem Dg.ne {l:BL} (h:Dg l) {x:UInt8} (hx:x.toNat<48\/57<x.toNat):x∉l:=fun hm=>by
  have:=ZhG.1 (h x hm);omega
def mnB (neg:Bool):BL:=if neg then [45] else []
def ZMg (I:BL):Prop:=I=[48]\/∃ c r,I=c::r/\c≠48/\Dg (c::r)
theorem ZMg.dg {I:BL} (h:ZMg I):Dg I/\I≠[]:=by
  rcases h with rfl | ⟨c,r,rfl,_,h⟩
  ·exact ⟨Dg.cons rfl Dg.nil,by simp⟩
  ·exact ⟨h,by simp⟩
def Zkz (a:Nat) (l:BL):Nat:=l.foldl (fun a c=>a*10+(c.toNat - 48)) a
theorem Zgi (a:Nat) (c:UInt8) (l:BL):Zkz a (c::l)=Zkz (a*10+(c.toNat - 48)) l:=by
  unfold Zkz
  rw [Awq]
theorem Zy1 (a:Nat) (x y:BL):Zkz a (x++y)=Zkz (Zkz a x) y:=by
  induction x generalizing a with
  | nil=>rfl
  | cons c x ih=>rw [Ayp,Zgi,Zgi];exact ih _
theorem Zwg (l:BL) (a:Nat):a*10 ^ l.length<=Zkz a l:=by
  induction l generalizing a with
  | nil=>exact Nat.le_of_eq (Aqv a)
  | cons c l ih =>
    have:=ih (a*10+(c.toNat - 48))
    rw [Zgi,Aqj,Nat.pow_succ]
    generalize 10 ^ l.length=e at *
    refine Aqp ?_ this
    rw [Azd e 10,<- Axg]
    exact Aqz _ (Nat.le_add_right _ _)
theorem ZCy (l:BL) (a:Nat):a<=Zkz a l:=by
  have:=Zwg l a
  have h:1<=10 ^ l.length:=Nat.pow_pos (by decide)
  have:=Nat.mul_le_mul_left a h
  omega
theorem ZCU (l:BL) (a:Nat) (h:Dg l) (ha:a<18446744073709551616):Lib.parseUint10 a l=if Zkz a l<18446744073709551616 then .ok (Zkz a l) else .range:=by
  induction l generalizing a with
  | nil =>
    rw [show Zkz a []=a from rfl,if_pos ha];rfl
  | cons c l ih =>
    have hc:=ZhG.1 (h c (by simp))
    have hl:Dg l:=fun d hd=>h d (Aws _ hd)
    have hv:=Zgi a c l
    have hge:=ZCy l (a*10+(c.toNat - 48))
    rw [hv]
    show (if 48<=c.toNat/\c.toNat<=57 then _ else _)=_
    rw [if_pos hc]
    split
    ·rw [if_neg (by omega)]
    split
    ·rw [if_neg (by omega)]
    ·exact ih _ hl (by omega)
theorem ZE9 {l:BL} (h:Dg l) (h0:l≠[]):Lib.parseMag l=if Zkz 0 l<18446744073709551616 then .ok (Zkz 0 l) else .range:=by
  unfold Lib.parseMag
  rw [if_neg h0,ZCU l 0 h (by decide)]
theorem Zuj {l:BL} (h:Dg l) (h0:l≠[]):Lib.atoiAll l=if Zkz 0 l<9223372036854775808 then .ok (Zkz 0 l:Int) else .range:=by
  rcases l with _ | ⟨c,l⟩
  ·exact absurd rfl h0
  have hc:=ZhG.1 (h c (by simp))
  rw [Lib.atoiAll_plain c l (by omega) (by omega),ZE9 h h0]
  by_cases h1:Zkz 0 (c::l)<18446744073709551616
  ·rw [if_pos h1]
   show (if 9223372036854775808<=Zkz 0 (c::l) then _ else _)=_
   by_cases h2:Zkz 0 (c::l)<9223372036854775808
   ·rw [if_pos h2,if_neg (by omega)]
   ·rw [if_neg h2,if_pos (by omega)]
  ·rw [if_neg h1,if_neg (by omega)];rfl
theorem Zuk {l:BL} (h:Dg l) (h0:l≠[]):Lib.atoiAll (45::l)=if Zkz 0 l<=9223372036854775808 then .ok (-(Zkz 0 l:Int)) else .range:=by
  rw [Lib.atoiAll_minus,ZE9 h h0]
  by_cases h1:Zkz 0 l<18446744073709551616
  ·rw [if_pos h1]
   show (if 9223372036854775808<Zkz 0 l then _ else _)=_
   by_cases h2:Zkz 0 l<=9223372036854775808
   ·rw [if_pos h2,if_neg (by omega)]
   ·rw [if_neg h2,if_pos (by omega)]
  ·rw [if_neg h1,if_neg (by omega)];rfl
end Go.Js
namespace Go.Js
open Go
end Go.Js
namespace Go.Proofs.YtpjbjdheeemdiaaGreatDoor
open Go Go.Fw Go.Js
end Go.Proofs.YtpjbjdheeemdiaaGreatDoor
namespace Go.Js
open Go
theorem ZqM:∀ (n:Nat) {l:JL} {k:Nat} {t:BL} {ns:List BL} {s r:JL},l.drop n = .cons k t ns s r->wV ⟨k,t,ns,s⟩<=pw l
  | 0,l,k,t,ns,s,r,e=>by rw [show l=_ from e];simp only [pw,wV];omega
  | n+1,.nil,_,_,_,_,_,e=>by cases e
  | n+1,.cons _ _ _ _ r',_,_,_,_,_,e=>by have:=ZqM n (l:=r') e;simp only [pw];omega
end Go.Js
namespace Go.Proofs.YtpjbjdheeemdiaaGreatDoor
open Go Go.Fw Go.Js
end Go.Proofs.YtpjbjdheeemdiaaGreatDoor
namespace Go.Js
open Go
end Go.Js
namespace Go.Proofs.YtpjbjdheeemdiaaGreatDoor
open Go Go.Fw Go.Js
section
variable {h:Zc}
end
end Go.Proofs.YtpjbjdheeemdiaaGreatDoor
namespace Go.Js
open Go
end Go.Js
namespace Go.Proofs.YtpjbjdheeemdiaaGreatDoor
open Go Go.Fw Go.Js
end Go.Proofs.YtpjbjdheeemdiaaGreatDoor
namespace Go.Js
open Go
theorem Zsq {k:Nat} (h:k<10):(UInt8.ofNat (48+k)).toNat=48+k:=by
  rw [UInt8.toNat_ofNat']
  exact Awv (by omega)
theorem Zx1 (u:Nat):Zkz 0 (Lib.decDigits u)=u/\Dg (Lib.decDigits u)/\(1<=u->∃ c r,Lib.decDigits u=c::r/\c≠48):=by
  induction u using Nat.strongRecOn with
  | _ u ih =>
    by_cases h:u<10
    ·rw [Lib.decDigits_one h]
     have e:=Zsq h
     refine ⟨?_,Dg.cons (ZhG.2 (by omega)) Dg.nil,fun h1=>⟨_,_,rfl,fun e2=>?_⟩⟩
     ·rw [Zgi,e]
      show 0*10+(48+u - 48)=u
      omega
     ·rw [e2] at e
      have:(48:UInt8).toNat=48:=rfl
      omega
    ·obtain ⟨a,b,c⟩:=ih (u / 10) (by omega)
     have e:=Zsq (k:=u % 10) (by omega)
     rw [Lib.decDigits,dif_neg h]
     refine ⟨?_,b.app (Dg.cons (ZhG.2 (by omega)) Dg.nil),fun _=>?_⟩
     ·rw [Zy1,Zgi,a,e]
      show u / 10*10+(48+u % 10 - 48)=u
      omega
     ·obtain ⟨x,r,hx,hn⟩:=c (by omega)
      exact ⟨x,r++[UInt8.ofNat (48+u % 10)],by rw [hx];rfl,hn⟩
theorem ZDC (u:Nat):ZMg (Lib.decDigits u):=by
  obtain ⟨_,b,c⟩:=Zx1 u
  rcases Aqw u with h | h
  ·subst h;exact .inl (Lib.decDigits_one (by decide))
  ·obtain ⟨x,r,hx,hn⟩:=c h
   exact .inr ⟨x,r,hx,hn,by rw [<- hx];exact b⟩
theorem Zxu (n:Int):∃ neg u,Lib.itoa n=mnB neg++Lib.decDigits u/\(neg=true->n = -(u:Int))/\(neg=false->n=u):=by
  unfold Lib.itoa
  by_cases h:n<0
  ·rw [if_pos h]
   exact ⟨true,n.natAbs,rfl,fun _=>by omega,fun h=>by cases h⟩
  ·rw [if_neg h]
   exact ⟨false,n.toNat,rfl,fun h=>(by cases h),fun _=>by omega⟩
end Go.Js
namespace Go.Proofs.YtpjbjdheeemdiaaGreatDoor
open Go Go.Fw Go.Js
theorem ZiC {h:Zc} {s:ByteArray} {K:VT5->HP} (hk:∀ h',Ext h h'->K (5,s,⟨none,0,0⟩,⟨none,0,0⟩,()) h'):Zaw s K h:=by
  unfold Zaw ZgX
  refine YX fun h1 c1 e1 z1=>?_
  have c1':obj h1 h.size=some (.cells zV.toArray 33 (0,0)):=c1
  have hs:sz h=h.size:=rfl
  exact Zbc (x:=⟨none,0,0⟩) (y:=⟨none,0,0⟩) c1' rfl fun h3 u3 z3=>hk h3 (e1.updS u3 fun j hj=>by omega)
end Go.Proofs.YtpjbjdheeemdiaaGreatDoor
namespace Go.Js
open Go
inductive FK where
  | text | num | yes | word (ws:List BL) | texts | items
inductive MV where
  | t (s:BL) | n (i:Int) | b (x:Bool) | w (i:Nat) | ts (l:List BL) | is (l:List (BL × Int))
deriving DecidableEq
abbrev Zyu:=List (BL × FK)
def ZAG (t:BL):Option Int:=match Lib.atoiAll t with
  | .ok v=>if Lib.itoa v=t then some v else none
  | _=>none
def JL.list:JL->List JV
  | .nil=>[]
  | .cons k t ns s r=>⟨k,t,ns,s⟩::r.list
theorem JL.list_len:∀ l:JL,l.list.length=l.len
  | .nil=>rfl
  | .cons _ _ _ _ r=>by simp [list,len,list_len r]
def Zjx {α β:Type} (f:α->Except Nat β):List α->Except Nat (List β)
  | []=> .ok []
  | a::l=>match f a with
    | .error e=> .error e
    | .ok b=>match Zjx f l with
      | .error e=> .error e
      | .ok bs=> .ok (b::bs)
def idxOf (t:BL):List BL->Nat->Option Nat
  | [],_=>none
  | w::ws,i=>if w=t then some i else idxOf t ws (i+1)
def ZpB (v:JV):Except Nat BL:=if v.k=5 then .ok v.t else .error 26
def Zdg:FK->JV->Except Nat MV
  | .text,v=>if v.k=5 then .ok (.t v.t) else .error 26
  | .num,v=>if v.k=4 then (match ZAG v.t with
    | some n=> .ok (.n n)
    | none=> .error 21) else .error 26
  | .yes,v=>if v.k=3 then .ok (.b true) else if v.k=2 then .ok (.b false) else .error 26
  | .word ws,v=>if v.k=5 then (match idxOf v.t ws 0 with
    | some i=> .ok (.w i)
    | none=> .error 26) else .error 26
  | .texts,v=>if v.k=6 then (match Zjx ZpB v.sub.list with
    | .ok l=> .ok (.ts l)
    | .error e=> .error e) else .error 26
  | .items,_=> .error 26
def Zbs {κ:Type} (a:BL):List (BL × κ)->Nat->Option (Nat × κ)
  | [],_=>none
  | (b,k)::r,j=>if b=a then some (j,k) else Zbs a r (j+1)
def Zgo {κ μ:Type} (rd:κ->JV->Except Nat μ) (F:List (BL × κ)):List BL->List (BL × JV)->List μ->Except Nat (List μ)
  | _,[],m=> .ok m
  | seen,(a,v)::r,m=>match Zbs a F 0 with
    | none=> .error 26
    | some (j,k)=>if a∈seen then .error 26 else match rd k v with
      | .error e=> .error e
      | .ok x=>Zgo rd F (seen++[a]) r (m.set j x)
def Xp {κ μ:Type} (rd:κ->JV->Except Nat μ) (F:List (BL × κ)) (m:List μ) (v:JV):Except Nat (List μ) :=
  if v.k=7/\v.ns.length=v.sub.len then Zgo rd F [] (v.ns.zip v.sub.list) m else .error 26
def tx (s:String):BL:=s.toUTF8.data.toList
def Zkv:Zyu:=[(tx "value", .text),(tx "count", .num)]
def Zna:List MV->BL × Int
  | [.t s,.n i]=>(s,i)
  | _=>([],0)
def Zby (v:JV):Except Nat (BL × Int):=match Xp Zdg Zkv [.t [],.n 0] v with
  | .ok m=> .ok (Zna m)
  | .error e=> .error e
def ZaK:FK->JV->Except Nat MV
  | .items,v=>if v.k=6 then (match Zjx Zby v.sub.list with
    | .ok l=> .ok (.is l)
    | .error e=> .error e) else .error 26
  | k,v=>Zdg k v
def Zib (_:Unit) (v:JV):Except Nat JL:=if v.k=6 then .ok v.sub else .error 26
def Zg8:List BL:=[tx "direct", tx "relate", tx "chain"]
def Zg9:List BL:=[tx "reject", tx "warmup", tx "pace", tx "warmpace"]
def Zhf:List BL:=[tx "slow", tx "errors", tx "count"]
def Zmn:Zyu:=[(tx "resource", .text),(tx "origin", .text),(tx "threads", .yes),(tx "count", .num),(tx "strategy", .word Zg8),(tx "ref", .text),(tx "shape", .word Zg9),(tx "warm", .num),(tx "queue", .num),(tx "cluster", .yes),(tx "id", .num),(tx "fallback", .yes)]
def Zp8:List MV:=[.t [],.t (tx "default"),.b false,.n 0,.w 0,.t [],.w 0,.n 0,.n 0,.b false,.n 0,.b false]
def Ziq:Zyu:=[(tx "resource", .text),(tx "grade", .word Zhf),(tx "count", .num),(tx "slow", .num),(tx "least", .num),(tx "window", .num),(tx "recover", .num)]
def Zkj:List MV:=[.t [],.w 0,.n 0,.n 0,.n 0,.n 0,.n 0]
def ZsI:Zyu:=[(tx "resource", .text),(tx "index", .num),(tx "count", .num),(tx "seconds", .num),(tx "items", .items)]
def ZxF:List MV:=[.t [],.n 0,.n 0,.n 0,.is []]
def ZfS:Zyu:=[(tx "qps", .num),(tx "threads", .num),(tx "rt", .num),(tx "load", .num),(tx "cpu", .num)]
def Ziw:List MV:=[.n (-1),.n (-1),.n (-1),.n (-1),.n (-1)]
def ZjX:Zyu:=[(tx "resource", .text),(tx "white", .yes),(tx "origins", .texts)]
def Zos:List MV:=[.t [],.b false,.ts []]
theorem ZpD {k:FK} {v:JV} {e:Nat} (h:Zdg k v = .error e):e=26\/e=21:=by
  cases k<;>simp only [Zdg] at h
  case text =>
    split at h<;>cases h
    exact .inl rfl
  case num =>
    split at h
    ·split at h<;>cases h
     exact .inr rfl
    ·cases h;exact .inl rfl
  case yes =>
    split at h
    ·cases h
    ·split at h<;>cases h
     exact .inl rfl
  case word =>
    split at h
    ·split at h<;>cases h
     exact .inl rfl
    ·cases h;exact .inl rfl
  case texts =>
    split at h
    ·split at h
     ·cases h
     ·rename_i e' he
      cases h
      refine .inl ?_
      generalize v.sub.list=l at he
      induction l with
      | nil=>cases he
      | cons a l ih =>
        simp only [Zjx] at he
        split at he
        ·rename_i e2 h2
         cases he
         unfold ZpB at h2
         split at h2<;>cases h2
         rfl
        ·split at he
         ·rename_i e2 h2
          cases he
          exact ih h2
         ·cases he
    ·cases h;exact .inl rfl
  case items=>cases h;exact .inl rfl
end Go.Js
namespace Go.Proofs.YtpjbjdheeemdiaaGreatDoor
open Go Go.Fw Go.Js
def Er (h:Zc) (R e:Nat):Prop:=∃ T,obj h R=some (.cells [.int .i64 (e:Int)].toArray T (0,0))
theorem Er.lt {h:Zc} {R e:Nat} (r:Er h R e):R<sz h:=by obtain ⟨T,hb⟩:=r;exact ZaJ hb
theorem Er.upd {S:Nat->Prop} {h h':Zc} {R e:Nat} (r:Er h R e) (u:Upd S h h') (hs:¬ S R):Er h' R e:=by
  have hl:=r.lt
  obtain ⟨T,hb⟩:=r
  exact ⟨T,(Zo u hl hs).trans hb⟩
theorem Er.ext {h h':Zc} {R e:Nat} (r:Er h R e) (u:Ext h h'):Er h' R e:=r.upd (u.upd fun _=>False) fun h=>h
theorem ZeU {h:Zc} {R e:Nat} (r:Er h R e) {K:Int->Prop} (hk:K (e:Int)):ldI h R 0 .i64 K:=by
  obtain ⟨T,hb⟩:=r
  exact rI (Zb hb rfl) hk
theorem ZhQ {h:Zc} {R:Nat} (r:Er h R 0) {e:Nat} {n:Int} (hn:n=e) {K:HP} (hk:∀ h',Er h' R e->Upd (· = R) h h'->sz h'=sz h->K h'):Ye (At R) n K h:=by
  unfold Ye Zcu
  refine Zu (ZeU r (Zn rfl (Zu ?_)))
  obtain ⟨T,hb⟩:=r
  subst hn
  exact Zjw hb (by show 0<1;omega) rfl fun h' c u z=>hk h' ⟨T,c⟩ u z
theorem ZiG {h:Zc} {R:Nat} (r:Er h R 0) {z:VT5} {k:Int} {K:Bool->HP} (h1:z.1=k->∀ h',Ext h h'->K true h') (h2:z.1≠k->∀ h',Er h' R 26->Upd (· = R) h h'->K false h') :
    Zw (At R) z k K h:=by
  unfold Zw Zb0
  refine YX fun h3 c3 e3 z3=>?_
  have c3':obj h3 h.size=some (.cells (Xl z).toArray 33 (0,0)):=c3
  have hR:=r.lt
  refine rI (Zb c3' rfl) (Zax (fun hne=>Zu (ZhQ (r.ext e3) rfl fun h4 r4 u4 z4=>?_)) fun he=>?_)
  ·have c4:obj h4 h.size=some (.cells (Xl z).toArray 33 (0,0)):=ZB c3' u4 fun e=>by have:sz h=h.size:=rfl;omega
   refine rI (Zb c4 rfl) ?_
   show Yx (z.1 ==k) _
   rw [show (z.1 ==k)=false by simpa using hne]
   exact h2 hne h4 r4 (UN e3 u4)
  ·refine rI (Zb c3' rfl) ?_
   show Yx (z.1 ==k) _
   rw [show (z.1 ==k)=true by simpa using he]
   exact h1 he h3 e3
theorem ZFp (t:BL):∀ (ws:List BL) (i j:Nat),idxOf t (ws.drop j) (i+j)=match ws.drop j with
    | []=>none
    | w::_=>if w=t then some (i+j) else idxOf t (ws.drop (j+1)) (i+(j+1)):=by
  intro ws i j
  cases hd:ws.drop j with
  | nil=>rfl
  | cons w r =>
    have e:ws.drop (j+1)=r:=by rw [<- Axp,hd];rfl
    simp only [idxOf,e]
    rfl
theorem ZsF {h:Zc} {ws:List BL} {x:Sl} (hr:Row h x 1 (ws.map sV)) {t:BL} {K:Int->HP} (hk:K (match idxOf t ws 0 with
    | some i=>(i:Int)
    | none=> -1) h):Xv x (Zk t) K h:=by
  unfold Xv
  have hlen:=ZaQ hr
  have big:=hr.big
  have cap:=hr.cap
  refine Za (Zv (fun p h'=>h'=h/\∃ i:Nat,p.1=i/\i<=ws.length/\idxOf t ws 0=idxOf t (ws.drop i) (0+i)) (fun p _=>(ws.length - p.1).toNat) ⟨rfl,0,rfl,Ayk _,rfl⟩ ?_)
  rintro ⟨i0,u⟩ h3 ⟨rfl,i,hi,hle,hq⟩
  dsimp only at hi ⊢
  subst hi
  refine Zt (fun hlt=>?_) fun hge=>?_
  ·have hi:i<ws.length:=by omega
   obtain ⟨w,hw⟩:∃ w,ws[i]?=some w:=⟨ws[i],Ayb hi⟩
   refine Za (ZfV hr hw rfl ?_)
   have hd:ws.drop i=w::ws.drop (i+1):=by rw [Ayl hi];congr 1;exact (Azj.1 hw).2
   rw [Zag]
   have hg:=ZFp t ws 0 i
   rw [hd] at hg
   simp only at hg
   by_cases he:t=w
   ·rw [decide_eq_true he]
    refine Zn rfl (Za ?_)
    rw [hq,hd,hg,if_pos he.symm] at hk
    simpa using hk
   ·rw [decide_eq_false he]
    refine Zm rfl ?_
    rw [Yt (by omega) (by omega)]
    refine ⟨⟨rfl,i+1,rfl,by omega,?_⟩,by omega⟩
    rw [hq,hd,hg,if_neg fun e=>he e.symm]
  ·refine Za ?_
   have:i=ws.length:=by omega
   subst this
   rw [hq,Aym] at hk
   exact hk
theorem ZxC {h:Zc} {ws:List BL} {x:Sl} (hr:Row h x 1 (ws.map sV)) {t:BL} {K:Int->HP} (hk:K (match idxOf t ws 0 with
    | some i=>(i:Int)
    | none=> -1) h):Xu x (Zk t) K h:=ZsF hr hk
theorem ZxB {h:Zc} {ws:List BL} {x:Sl} (hr:Row h x 1 (ws.map sV)) {t:BL} {K:Int->HP} (hk:K (match idxOf t ws 0 with
    | some i=>(i:Int)
    | none=> -1) h):YO x (Zk t) K h:=ZsF hr hk
theorem ZpV {t:BL}:∀ {ws:List BL} {i:Nat},(idxOf t ws i).isSome=true↔t∈ws
  | [],i=>by simp [idxOf]
  | w::ws,i=>by
    simp only [idxOf]
    split
    ·rename_i h;simp [h]
    ·rename_i h
     rw [ZpV,Awr]
     exact ⟨.inr,fun h2=>h2.resolve_left fun e=>h e.symm⟩
theorem ZlV {h:Zc} {ws:List BL} {x:Sl} (hr:Row h x 1 (ws.map sV)) {t:BL} {K:Bool->HP} (hk:K (decide (t∈ws)) h):ZY x (Zk t) K h:=by
  unfold ZY XP
  refine ZxC hr ?_
  show Yx (decide ((match idxOf t ws 0 with
    | some i=>(i:Int)
    | none=> -1)>=0)) fun t2=>K t2 h
  have:decide ((match idxOf t ws 0 with
    | some i=>(i:Int)
    | none=> -1)>=0)=decide (t∈ws):=by
    have hm:=ZpV (t:=t) (ws:=ws) (i:=0)
    cases hx:idxOf t ws 0 with
    | none=>rw [hx] at hm;simp only [Awf,Aqc,false_iff] at hm;simp [hm]
    | some i=>rw [hx] at hm;simp only [Option.isSome_some,true_iff] at hm;simp [hm]
  rw [this]
  exact hk
def Ze0 (l:List (BL × Int)):List Value:=l.flatMap fun p=>[sV p.1,.int .i64 p.2]
def ZeQ (h:Zc) (base:Nat) (v:Value):MV->Prop
  | .t s=>v=sV s
  | .n i=>v = .int .i64 i
  | .b x=>v = .bool x
  | .w i=>v = .int .u8 (i:Int)
  | .ts l=>∃ x,v=slV x/\Own h base x 1 (l.map sV)
  | .is l=>∃ x,v=slV x/\Own h base x 2 (Ze0 l)
def Zge (B:Nat) (T:TypeId) (base:Nat) (m:List MV) (h:Zc):Prop :=
  ∃ vs:List Value,obj h B=some (.cells vs.toArray T (0,0))/\vs.length=m.length/\∀ (i:Nat) (x:MV),m[i]?=some x->∃ v:Value,vs[i]?=some v/\ZeQ h base v x
theorem ZeQ.congr {h h':Zc} {base:Nat} {v:Value} {m:MV} (c:ZeQ h base v m) (he:∀ b,base<=b->b<sz h->obj h' b=obj h b):ZeQ h' base v m:=by
  cases m<;>first
    | exact c
    | (obtain ⟨x,e,o⟩:=c;exact ⟨x,e,o.congr fun b _ hl hb=>he b hb hl⟩)
theorem Zge.lt {B:Nat} {T:TypeId} {base:Nat} {m:List MV} {h:Zc} (r:Zge B T base m h):B<sz h:=by obtain ⟨vs,c,_⟩:=r;exact ZaJ c
theorem Zge.upd {S:Nat->Prop} {B:Nat} {T:TypeId} {base:Nat} {m:List MV} {h h':Zc} (r:Zge B T base m h) (u:Upd S h h') (hB:¬ S B) (hs:∀ b,S b->b<base\/sz h<=b):Zge B T base m h':=by
  obtain ⟨vs,c,l,g⟩:=r
  refine ⟨vs,ZB c u hB,l,fun i x hx=>?_⟩
  obtain ⟨v,h1,h2⟩:=g i x hx
  exact ⟨v,h1,h2.congr fun b hb hl=>Zo u hl fun hS=>by rcases hs b hS with h | h<;>omega⟩
theorem Zge.ext {B:Nat} {T:TypeId} {base:Nat} {m:List MV} {h h':Zc} (r:Zge B T base m h) (u:Ext h h'):Zge B T base m h':=r.upd (u.upd fun _=>False) (fun h=>h) fun _ h=>h.elim
theorem Zge.put {B:Nat} {T:TypeId} {base:Nat} {m:List MV} {h:Zc} (r:Zge B T base m h) {j:Nat} {x0 x:MV} (hj:m[j]?=some x0) {v:Value} (hv:Yc v=true) (hB:B<base) (hx:∀ h',Upd (· = B) h h'->ZeQ h' base v x) {K:HP}
    (hk:∀ h',Zge B T base (m.set j x) h'->Upd (· = B) h h'->sz h'=sz h->K h'):st h B j v K:=by
  obtain ⟨vs,c,l,g⟩:=r
  have hlt:j<vs.length:=by rw [l];exact (Azj.1 hj).1
  refine Zjw c hlt hv fun h' c' u z=>hk h' ⟨vs.set j v,c',by simp [l],fun i y hy=>?_⟩ u z
  by_cases hij:j=i
  ·subst hij
   rw [Ayv (by omega)] at hy
   cases hy
   exact ⟨v,by rw [Ayv hlt],hx h' u⟩
  ·rw [Azq hij] at hy
   obtain ⟨w,h1,h2⟩:=g i y hy
   exact ⟨w,by rw [Azq hij];exact h1,h2.congr fun b hb hl=>Zo u hl fun e=>by omega⟩
def mk:MV->Nat
  | .t _=>0 | .n _=>1 | .b _=>2 | .w _=>3 | .ts _=>4 | .is _=>5
theorem Zsx {m:List MV} {j:Nat} {x0 x:MV} (hj:m[j]?=some x0) (hx:mk x=mk x0):(m.set j x).map mk=m.map mk:=by
  apply Awy
  intro i
  rw [Awz,Awz]
  by_cases hij:j=i
  ·subst hij
   rw [Ayv (Azj.1 hj).1,hj]
   simp [hx]
  ·rw [Azq hij]
structure ZAi (h:Zc) (R B:Nat) (T:TypeId) (base:Nat) (m:List MV) (j:Nat) (res:Except Nat MV) (K:HP):Prop where
  ok:∀ x h',res = .ok x->Zge B T base (m.set j x) h'->Er h' R 0->Upd (fun b=>b=R\/b=B) h h'->K h'
  er:∀ e m' h',res = .error e->m'.map mk=m.map mk->Zge B T base m' h'->Er h' R e->Upd (fun b=>b=R\/b=B) h h'->K h'
structure ZAV (h:Zc) (R B:Nat) (T:TypeId) (base:Nat) (m:List MV) (j c1 c2:Nat):Prop where
  er:Er h R 0
  rcd:Zge B T base m h
  ne:B≠R
  rb:R<base
  bb:B<base
  box1:∃ T1,obj h c1=some (.cells [.pointer (At R)].toArray T1 (0,0))
  box2:∃ T2,obj h c2=some (.cells [.pointer (some ⟨B,j,none⟩)].toArray T2 (0,0))
  c1n:c1≠R/\c1≠B
  c2n:c2≠R/\c2≠B
theorem Zb9 {h:Zc} {c:Nat} {p:Option Addr} (b:∃ T1,obj h c=some (.cells [.pointer p].toArray T1 (0,0))) {K:Option Addr->Prop} (hk:K p):Ze (At c) fun b o=>ldP h b o K:=by
  obtain ⟨T1,b⟩:=b
  exact Zu (rP (Zb b rfl) hk)
theorem ZAV.ext {h h':Zc} {R B:Nat} {T:TypeId} {base:Nat} {m:List MV} {j c1 c2:Nat} (s:ZAV h R B T base m j c1 c2) (u:Ext h h'):ZAV h' R B T base m j c1 c2:=by
  obtain ⟨T1,b1⟩:=s.box1
  obtain ⟨T2,b2⟩:=s.box2
  exact ⟨s.er.ext u,s.rcd.ext u,s.ne,s.rb,s.bb,⟨T1,Zl b1 u⟩,⟨T2,Zl b2 u⟩,s.c1n,s.c2n⟩
theorem ZAi.ext {h h1:Zc} {R B:Nat} {T:TypeId} {base:Nat} {m:List MV} {j:Nat} {res:Except Nat MV} {K:HP} (l:ZAi h R B T base m j res K) (u:Ext h h1):ZAi h1 R B T base m j res K :=
  ⟨fun x h' a b c d=>l.ok x h' a b c (UN u d),fun e m' h' a b c d f=>l.er e m' h' a b c d (UN u f)⟩
theorem ZAV.put {h:Zc} {R B:Nat} {T:TypeId} {base:Nat} {m:List MV} {j c1 c2:Nat} (s:ZAV h R B T base m j c1 c2) {x0 x:MV} (hj:m[j]?=some x0) {v:Value} (hv:Yc v=true) (hx:∀ h',ZeQ h' base v x) {res:Except Nat MV} {K:HP}
    (l:ZAi h R B T base m j res K) (hres:res = .ok x):Ze (At c2) fun b o=>ldP h b o fun t=>Ze t fun b2 o2=>st h b2 o2 v K :=
  Zb9 s.box2 (Zu (s.rcd.put hj hv s.bb (fun h' _=>hx h') fun h' r u _=>l.ok x h' hres r (s.er.upd u fun e=>s.ne e.symm) (u.mono fun _ _ e=> .inr e)))
theorem ZCC {h:Zc} {R B:Nat} {T:TypeId} {base:Nat} {m:List MV} {j c1 c2:Nat} (s:ZAV h R B T base m j c1 c2) {x0:MV} (hj:m[j]?=some x0) {z:VT5} {v:JV} (h1:z.1=v.k) (h2:z.2.1=Zk v.t) {K:HP} (l:ZAi h R B T base m j (Zdg .text v) K) :
    YT z (At c1) (At c2) K h:=by
  unfold YT Zbm
  refine YX fun h3 c3 e3 z3=>?_
  have c3':obj h3 h.size=some (.cells (Xl z).toArray 33 (0,0)):=c3
  have s3:=s.ext e3
  have l3:=l.ext e3
  refine Zb9 s3.box1 (rI (Zb c3' rfl) (rS (Zb c3' rfl) (rL (s:=z.2.2.1) (Zb c3' rfl) (rL (s:=z.2.2.2.1) (Zb c3' rfl) (ZiG s3.er (fun he h4 e4=>Zn rfl ?_) fun hne h4 r4 u4=>Zm rfl ?_)))))
  ·have c4:=Zl c3' e4
   have s4:=s3.ext e4
   have hk:v.k=5:=by have:z.1=5:=he;omega
   refine Zb9 s4.box2 (rS (Zb c4 rfl) ?_)
   refine Zu (s4.rcd.put hj rfl s4.bb (fun h' _=>(show ZeQ h' base (.string z.2.1) (.t v.t) by rw [h2];rfl)) fun h' r u _=>(l3.ext e4).ok (.t v.t) h' (by simp [Zdg,hk]) r (s4.er.upd u fun e=>s4.ne e.symm) (u.mono fun _ _ e=> .inr e))
  ·have hk:v.k≠5:=fun e=>hne (show z.1=5 by omega)
   exact l3.er 26 m h4 (by simp [Zdg,hk]) rfl (s3.rcd.upd u4 s3.ne fun b e=> .inl (by rw [e];exact s3.rb)) r4 (u4.mono fun _ _ e=> .inl e)
theorem ZED {h:Zc} {R B:Nat} {T:TypeId} {base:Nat} {m:List MV} {j c1 c2:Nat} (s:ZAV h R B T base m j c1 c2) {x0:MV} (hj:m[j]?=some x0) (hx0:mk x0=2) {z:VT5} {v:JV} (h1:z.1=v.k) {K:HP} (l:ZAi h R B T base m j (Zdg .yes v) K) :
    YY z (At c1) (At c2) K h:=by
  unfold YY ZbH
  refine YX fun h3 c3 e3 z3=>?_
  have c3':obj h3 h.size=some (.cells (Xl z).toArray 33 (0,0)):=c3
  have s3:=s.ext e3
  have l3:=l.ext e3
  refine rI (Zb c3' rfl) (Zax (fun hne=>Zb9 s3.box1 (rI (Zb c3' rfl) (rS (Zb c3' rfl) (rL (s:=z.2.2.1) (Zb c3' rfl) (rL (s:=z.2.2.2.1) (Zb c3' rfl) (ZiG s3.er (fun he h4 e4=>?_) fun hk h4 r4 u4=>?_)))))) fun he=>?_)
  ·have c4:=Zl c3' e4
   have s4:=s3.ext e4
   have hk:v.k=2:=by have:z.1=2:=he;omega
   have e:(z.1 ==3)=false:=by simpa using hne
   refine Zb9 s4.box2 (rI (Zb c4 rfl) ?_)
   rw [show (z.1 ==(3:Int))=false from e]
   exact Zu (s4.rcd.put hj rfl s4.bb (fun h' _=>(show ZeQ h' base (.bool false) (.b false) from rfl)) fun h' r u _=>(l3.ext e4).ok (.b false) h' (by simp [Zdg,hk]) r (s4.er.upd u fun e=>s4.ne e.symm) (u.mono fun _ _ e=> .inr e))
  ·have hb:h.size≠R:=fun e=>by have:=s.er.lt;have:sz h=h.size:=rfl;omega
   have c4:=ZB c3' u4 hb
   obtain ⟨T2,b2⟩:=s3.box2
   have hk2:v.k≠2:=fun e=>hk (show z.1=2 by omega)
   have hk3:v.k≠3:=fun e=>hne (show z.1=3 by omega)
   have e:(z.1 ==3)=false:=by simpa using hne
   have r4':=s3.rcd.upd u4 s3.ne fun b e=> .inl (by rw [e];exact s3.rb)
   refine Zb9 (c:=c2) ⟨T2,ZB b2 u4 s3.c2n.1⟩ (rI (Zb c4 rfl) ?_)
   rw [show (z.1 ==(3:Int))=false from e]
   exact Zu (r4'.put hj rfl s3.bb (fun h' _=>(show ZeQ h' base (.bool false) (.b false) from rfl)) fun h' r u _=>l3.er 26 (m.set j (.b false)) h' (by simp [Zdg,hk2,hk3]) (Zsx hj (by rw [hx0];rfl)) r (r4.upd u fun e=>s3.ne e.symm) ((u4.mono fun _ _ e=> .inl e).trans (u.mono fun _ _ e=> .inr e)))
  ·have hk:v.k=3:=by have:z.1=3:=he;omega
   refine Zb9 s3.box2 (rI (Zb c3' rfl) ?_)
   rw [show (z.1 ==(3:Int))=true by simpa using he]
   exact Zu (s3.rcd.put hj rfl s3.bb (fun h' _=>(show ZeQ h' base (.bool true) (.b true) from rfl)) fun h' r u _=>l3.ok (.b true) h' (by simp [Zdg,hk]) r (s3.er.upd u fun e=>s3.ne e.symm) (u.mono fun _ _ e=> .inr e))
theorem Zw7 {h:Zc} {R B:Nat} {T:TypeId} {base:Nat} {m:List MV} {j c1 c2:Nat} (s:ZAV h R B T base m j c1 c2) {x0:MV} (hj:m[j]?=some x0) (ht:ZaN h) {z:VT5} {v:JV} (h1:z.1=v.k) (h2:z.2.1=Zk v.t) (hl:v.t.length<=281474976710656) {K:HP}
    (l:ZAi h R B T base m j (Zdg .num v) K):YB z (At c1) (At c2) K h:=by
  unfold YB ZaM
  refine YX fun h3 c3 e3 z3=>?_
  have c3':obj h3 h.size=some (.cells (Xl z).toArray 33 (0,0)):=c3
  have s3:=s.ext e3
  have l3:=l.ext e3
  have t3:=ht.ext e3
  refine Zb9 s3.box1 (rI (Zb c3' rfl) (rS (Zb c3' rfl) (rL (s:=z.2.2.1) (Zb c3' rfl) (rL (s:=z.2.2.2.1) (Zb c3' rfl) (ZiG s3.er (fun he h4 e4=>Zm rfl ?_) fun hne h4 r4 u4=>Zn rfl ?_)))))
  ·have c4:=Zl c3' e4
   have s4:=s3.ext e4
   have l4:=l3.ext e4
   have t4:=t3.ext e4
   have hk:v.k=4:=by have:z.1=4:=he;omega
   refine rS (Zb c4 rfl) ?_
   rw [show z.2.1=Zk v.t from h2]
   refine Zyh hl t4 (fun n h5 ea e5=>Za (.inl ⟨rfl,Zm rfl ?_⟩)) fun n t p h5 ea e5=>Za (.inr ⟨_,_,rfl,Zn rfl ?_⟩)
   ·have c5:=Zl c4 e5
    have t5:=t4.ext e5
    obtain ⟨b1,b2⟩:=Lib.atoiAll_bounds ea
    refine rS (Zb c5 rfl) ⟨t5,b1,b2,fun h6 e6=>Zdb (Zb (Zl c5 e6) rfl) ?_⟩
    have s6:=(s4.ext e5).ext e6
    have l6:=(l4.ext e5).ext e6
    rw [show z.2.1=Zk v.t from h2,Zag]
    by_cases hq:Lib.itoa n=v.t
    ·rw [decide_eq_true hq]
     refine Zm rfl (Zb9 s6.box2 (Zu (s6.rcd.put hj rfl s6.bb (fun h' _=>(show ZeQ h' base (.int .i64 n) (.n n) from rfl)) fun h' r u _=>l6.ok (.n n) h' ?_ r (s6.er.upd u fun e=>s6.ne e.symm) (u.mono fun _ _ e=> .inr e))))
     simp [Zdg,hk,ZAG,ea,hq]
    ·rw [decide_eq_false hq]
     refine Zn rfl (Zb9 s6.box1 (Zu (ZhQ s6.er rfl fun h' r u _=>l6.er 21 m h' ?_ rfl (s6.rcd.upd u s6.ne fun b e=> .inl (by rw [e];exact s6.rb)) r (u.mono fun _ _ e=> .inl e))))
     simp [Zdg,hk,ZAG,ea,hq]
   ·have s5:=s4.ext e5
    have l5:=l4.ext e5
    refine Zb9 s5.box1 (Zu (ZhQ s5.er rfl fun h' r u _=>l5.er 21 m h' ?_ rfl (s5.rcd.upd u s5.ne fun b e=> .inl (by rw [e];exact s5.rb)) r (u.mono fun _ _ e=> .inl e)))
    have:ZAG v.t=none:=by
      unfold ZAG
      split
      ·rename_i w hw;exact absurd hw (ea w)
      ·rfl
    simp [Zdg,hk,this]
  ·have hk:v.k≠4:=fun e=>hne (show z.1=4 by omega)
   exact l3.er 26 m h4 (by simp [Zdg,hk]) rfl (s3.rcd.upd u4 s3.ne fun b e=> .inl (by rw [e];exact s3.rb)) r4 (u4.mono fun _ _ e=> .inl e)
theorem ZsG {t:BL}:∀ {ws:List BL} {i k:Nat},idxOf t ws i=some k->k<i+ws.length
  | [],_,_,h=>by cases h
  | w::ws,i,k,h=>by
    simp only [idxOf] at h
    split at h
    ·cases h;simp
    ·have:=ZsG h
     simp only [Aqj]
     omega
def ZAM (F j:Nat):Prop:=(F=140/\j=4)\/(F=141/\j=6)\/(F=142/\j=1)
theorem ZCu {h:Zc} {R B:Nat} {T:TypeId} {base:Nat} {m:List MV} {j c1 c2 c3:Nat} (er:Er h R 0) (rc:Zge B T base m h) (ne:B≠R) (rb:R<base) (bb:B<base) (box1:∃ T1,obj h c1=some (.cells [.pointer (At R)].toArray T1 (0,0)))
    {x:Sl} {ws:List BL} (box2:∃ T2,obj h c2=some (.cells [slV x].toArray T2 (0,0))) (hrow:Row h x 1 (ws.map sV)) (hin:inS (fun b=>b<sz h) x) (hw:ws.length<=255) {F:Nat} (hF:ZAM F j)
    (box3:∃ T3,obj h c3=some (.cells [.func (.func F) #[] #[.pointer (At B)]].toArray T3 (0,0))) {x0:MV} (hj:m[j]?=some x0) {z:VT5} {v:JV} (h1:z.1=v.k) (h2:z.2.1=Zk v.t) {K:HP}
    (l:ZAi h R B T base m j (Zdg (.word ws) v) K):YS z (At c1) (At c2) (At c3) K h:=by
  unfold YS Zbl
  refine YX fun h3 c3' e3 z3=>?_
  have cv:obj h3 h.size=some (.cells (Xl z).toArray 33 (0,0)):=c3'
  obtain ⟨T1,b1⟩:=box1
  obtain ⟨T2,b2⟩:=box2
  obtain ⟨T3,b3⟩:=box3
  have er3:=er.ext e3
  refine Zb9 (c:=c1) ⟨T1,Zl b1 e3⟩ (rI (Zb cv rfl) (rS (Zb cv rfl) (rL (s:=z.2.2.1) (Zb cv rfl) (rL (s:=z.2.2.2.1) (Zb cv rfl) (ZiG er3 (fun he h4 e4=>Zm rfl ?_) fun hne h4 r4 u4=>Zn rfl ?_)))))
  ·have e34:=e3.trans e4
   have c4:=Zl cv e4
   have l4:=l.ext e34
   have er4:=er.ext e34
   have rc4:=rc.ext e34
   have hk:v.k=5:=by have:z.1=5:=he;omega
   have row4:Row h4 x 1 (ws.map sV):=Yi hrow hin fun b hb _=>Zq e34 hb
   refine Zu (rL (s:=x) (Zb (Zl b2 e34) rfl) (rS (Zb c4 rfl) ?_))
   rw [show z.2.1=Zk v.t from h2]
   refine ZxB row4 (Za ?_)
   cases hq:idxOf v.t ws 0 with
   | none =>
     refine Zn rfl (Zb9 (c:=c1) ⟨T1,Zl b1 e34⟩ (Zu (ZhQ er4 rfl fun h' r u _=>l4.er 26 m h' (by simp [Zdg,hk,hq]) rfl (rc4.upd u ne fun b e=> .inl (by rw [e];exact rb)) r (u.mono fun _ _ e=> .inl e))))
   | some i =>
     have hi:=ZsG hq
     have hw8:IntKind.wrap .u8 (i:Int)=(i:Int):=by rw [w8,Awv (by omega)]
     refine Zm (by simp) (Zu (rV (Zb (Zl b3 e34) rfl) ?_))
     have fin:st h4 B j (.int .u8 (i:Int)) K:=rc4.put hj rfl bb (fun h' _=>(show ZeQ h' base (.int .u8 (i:Int)) (.w i) from rfl)) fun h' r u _=>l4.ok (.w i) h' (by simp [Zdg,hk,hq]) r (er4.upd u fun e=>ne e.symm) (u.mono fun _ _ e=> .inr e)
     rcases hF with ⟨rfl,rfl⟩ | ⟨rfl,rfl⟩ | ⟨rfl,rfl⟩
     ·refine .inl ⟨(At B,()),rfl,?_⟩
      show Ze (At B) fun b o=>st h4 b (o+4) (.int .u8 (IntKind.wrap .u8 (i:Int))) K
      rw [hw8]
      exact Zu fin
     ·refine .inr (.inl ⟨(At B,()),rfl,?_⟩)
      show Ze (At B) fun b o=>st h4 b (o+6) (.int .u8 (IntKind.wrap .u8 (i:Int))) K
      rw [hw8]
      exact Zu fin
     ·refine .inr (.inr (.inl ⟨(At B,()),rfl,?_⟩))
      show Ze (At B) fun b o=>st h4 b (o+1) (.int .u8 (IntKind.wrap .u8 (i:Int))) K
      rw [hw8]
      exact Zu fin
  ·have hk:v.k≠5:=fun e=>hne (show z.1=5 by omega)
   have u:=UN e3 u4
   exact l.er 26 m h4 (by simp [Zdg,hk]) rfl ((rc.ext e3).upd u4 ne fun b e=> .inl (by rw [e];exact rb)) r4 (u.mono fun _ _ e=> .inl e)
def Wr (R B base:Nat) (b:Nat):Prop:=b=R\/b=B\/base<=b
def Zml (m:List MV) (j:Nat):Prop:=∀ (i:Nat) (y:MV),m[i]?=some y->i≠j->mk y<4
theorem ZeQ.leaf {h h':Zc} {base:Nat} {v:Value} {y:MV} (c:ZeQ h base v y) (hl:mk y<4):ZeQ h' base v y:=by
  cases y<;>first
    | exact c
    | (simp [mk] at hl)
theorem Zsh {h h' h2:Zc} {R B:Nat} {T:TypeId} {base:Nat} {m:List MV} {j:Nat} {vs:List Value} (c:obj h B=some (.cells vs.toArray T (0,0))) (hlen:vs.length=m.length) (g:∀ (i:Nat) (x:MV),m[i]?=some x->∃ v:Value,vs[i]?=some v/\ZeQ h base v x)
    (hlf:Zml m j) {v:Value} (c2:obj h2 B=some (.cells (vs.set j v).toArray T (0,0))) {x:MV} (hx:ZeQ h2 base v x) (hjl:j<m.length):Zge B T base (m.set j x) h2:=by
  refine ⟨vs.set j v,c2,by simp [hlen],fun i y hy=>?_⟩
  by_cases hij:j=i
  ·subst hij
   rw [Ayv hjl] at hy
   cases hy
   exact ⟨v,by rw [Ayv (by omega)],hx⟩
  ·rw [Azq hij] at hy
   obtain ⟨w,a,b⟩:=g i y hy
   exact ⟨w,by rw [Azq hij];exact a,b.leaf (hlf i y hy fun e=>hij e.symm)⟩
theorem ZwU {h:Zc} {R B:Nat} {T:TypeId} {base:Nat} {m:List MV} {c1:Nat} (er:Er h R 0) (rc:Zge B T base m h) (ne:B≠R) (rb:R<base) (bb:B<base) (hbase:base<=sz h) (box1:∃ T1,obj h c1=some (.cells [.pointer (At R)].toArray T1 (0,0)))
    {l:List BL} (hj:m[2]?=some (.ts l)) (hlf:Zml m 2) (hl:l.length<=1000000000000) {z:VT5} {v:JV} (h1:z.1=v.k) (h2:z.2.1=Zk v.t) {K:HP}
    (ok:∀ h',v.k=5->Zge B T base (m.set 2 (.ts (l++[v.t]))) h'->Er h' R 0->Upd (Wr R B base) h h'->K h')
    (bad:∀ h',v.k≠5->Zge B T base m h'->Er h' R 26->Upd (Wr R B base) h h'->K h'):Yy z (At c1) (At B) K h:=by
  unfold Yy Zbo
  refine YX fun h3 c3' e3 z3=>?_
  have cv:obj h3 h.size=some (.cells (Xl z).toArray 33 (0,0)):=c3'
  obtain ⟨T1,b1⟩:=box1
  have er3:=er.ext e3
  refine Zb9 (c:=c1) ⟨T1,Zl b1 e3⟩ (rI (Zb cv rfl) (rS (Zb cv rfl) (rL (s:=z.2.2.1) (Zb cv rfl) (rL (s:=z.2.2.2.1) (Zb cv rfl) (ZiG er3 (fun he h4 e4=>Zn rfl ?_) fun hne h4 r4 u4=>Zm rfl ?_)))))
  ·have e34:=e3.trans e4
   have c4:=Zl cv e4
   have hk:v.k=5:=by have:z.1=5:=he;omega
   obtain ⟨vs,cB,hlen,g⟩:=rc.ext e34
   obtain ⟨w,hw,s,hs,own⟩:=g 2 (.ts l) hj
   subst hs
   have hjl:2<m.length:=(Azj.1 hj).1
   have hsl:s.len=l.length:=by have:=own.len;simp at this;omega
   refine Zu (rL (s:=s) (Zb cB (by simpa using hw)) (rS (Zb c4 rfl) (YX fun h5 c5 e5 z5=>Zha c5 rfl ?_)))
   rw [show z.2.1=Zk v.t from h2]
   have own5:Own h5 base s 1 (l.map sV):=own.congr fun b _ hb _=>Zq e5 hb
   have sz4:sz h<=sz h4:=e34.size
   have sz5:sz h4<=sz h5:=e5.size
   refine own5.app (new:=[sV v.t]) rfl rfl rfl (by omega) (by omega) (show base<=sz h5 by omega) fun s6 h6 o6 hs6 u6 hb6=>?_
   have hBs:¬ s.blk=some B:=fun e=>by have:=(own5.lt e).1;omega
   have hRs:¬ s.blk=some R:=fun e=>by have:=(own5.lt e).1;omega
   have cB6:obj h6 B=some (.cells vs.toArray T (0,0)):=ZB (Zl cB e5) u6 hBs
   have hvl:2<vs.length:=by omega
   refine Zu (Zjw cB6 hvl rfl fun h7 c7 u7 z7=>ok h7 hk ?_ ?_ ?_)
   ·refine Zsh (h':=h7) (R:=R) cB hlen g hlf c7 (x:= .ts (l++[v.t])) ⟨s6,rfl,?_⟩ hjl
    have:Own h6 base s6 1 ((l++[v.t]).map sV):=by simpa using o6
    exact this.congr fun b _ hb hbb=>Zo u7 hb fun e=>by omega
   ·exact (((er.ext e34).ext e5).upd u6 hRs).upd u7 fun e=>ne e.symm
   ·refine UN e34 (UN e5 ((u6.mono fun k _ e=> .inr (.inr (own5.lt e).1)).trans (u7.mono fun k _ e=> .inr (.inl e))))
  ·have hk:v.k≠5:=fun e=>hne (show z.1=5 by omega)
   exact bad h4 hk ((rc.ext e3).upd u4 ne fun b e=> .inl (by rw [e];exact rb)) r4 (UN e3 (u4.mono fun _ _ e=> .inl e))
end Go.Proofs.YtpjbjdheeemdiaaGreatDoor
namespace Go.Js
open Go
theorem Zop {α β:Type} {f:α->Except Nat β}:∀ {a b:List α},Zjx f (a++b)=match Zjx f a with
    | .error e=> .error e
    | .ok x=>match Zjx f b with
      | .error e=> .error e
      | .ok y=> .ok (x++y)
  | [],b=>by
    simp only [Ayq,Zjx]
    cases Zjx f b<;>rfl
  | c::a,b=>by
    simp only [Ayp,Zjx]
    rw [Zop]
    cases f c with
    | error e=>rfl
    | ok y=>cases Zjx f a with
      | error e=>rfl
      | ok x=>cases Zjx f b<;>rfl
theorem Zxj {α β:Type} {f:α->Except Nat β} {l:List α} {i:Nat} {x:α} {done:List β} (hx:l[i]?=some x) (hd:Zjx f (l.take i) = .ok done) :
    (∀ e,f x = .error e->Zjx f l = .error e)/\∀ y,f x = .ok y->Zjx f (l.take (i+1)) = .ok (done++[y]):=by
  obtain ⟨hi,hxe⟩:=Azj.1 hx
  have e1:l=l.take i++(x::l.drop (i+1)):=by
    rw [<- hxe,<- Ayl hi,Azg]
  have e2:l.take (i+1)=l.take i++[x]:=by rw [Ayu,hx];rfl
  refine ⟨fun e he=>?_,fun y hy=>?_⟩
  ·rw [e1,Zop,hd]
   simp [Zjx,he]
  ·rw [e2,Zop,hd]
   simp [Zjx,hy]
theorem JL.drop_list:∀ (n:Nat) (l:JL),(l.drop n).list=l.list.drop n
  | 0,l=>by simp [JL.drop]
  | n+1,.nil=>rfl
  | n+1,.cons k t ns s r=>by simp only [JL.drop,JL.list,List.drop_succ_cons];exact JL.drop_list n r
theorem JL.list_get {l r s:JL} {n k:Nat} {t:BL} {ns:List BL} (h:l.drop n = .cons k t ns s r):l.list[n]?=some ⟨k,t,ns,s⟩:=by
  have:=JL.drop_list n l
  rw [h] at this
  have h2:(l.list.drop n)[0]?=some ⟨k,t,ns,s⟩:=by rw [<- this];rfl
  simpa using h2
end Go.Js
namespace Go.Proofs.YtpjbjdheeemdiaaGreatDoor
open Go Go.Fw Go.Js
def ZN1 (fh:ZnB) (cl:Value) (z:VT5) (K:HP) (h:Zc):Prop :=
  (exG cl (fun c:Option Addr × Option Addr × Unit=> .func (.func 143) #[] ⟨[.pointer c.1,.pointer c.2.1]⟩) fun c=>fh z c.1 c.2.1 K h) \/
  ((exG cl (fun c:Option Addr × Option Addr × Unit=> .func (.func 145) #[] ⟨[.pointer c.1,.pointer c.2.1]⟩) fun c=>Yy z c.1 c.2.1 K h)\/False)
theorem Zta {α:Type} {fh:ZnB} {rdE:JV->Except Nat α} {wrap:List α->MV} {cl:Value} {h0:Zc} {R B:Nat} {T:TypeId} {base:Nat} {m:List MV} {j c1 c2:Nat} (er:Er h0 R 0) (rc:Zge B T base m h0) (ne:B≠R) (rb:R<base) (bb:B<base) (hbase:base<=sz h0)
    (box1:∃ T1,obj h0 c1=some (.cells [.pointer (At R)].toArray T1 (0,0))) (box2:∃ T2,obj h0 c2=some (.cells [cl].toArray T2 (0,0))) (n1:c1<base/\c1≠R/\c1≠B) (n2:c2<base/\c2≠R/\c2≠B)
    {z:VT5} {v:JV} {S:Nat->Prop} {P:JV->Prop} (hv:Zam h0 S z v) (hS:∀ b,S b->b<base/\b≠R/\b≠B) (hP:∀ w,w∈v.sub.list->P w) (hj:m[j]?=some (wrap [])) (hcnt:v.sub.len<=1000000000000)
    (hE:∀ {h:Zc} {l:List α} {z':VT5} {v':JV} {K:HP},Upd (Wr R B base) h0 h->Zge B T base (m.set j (wrap l)) h->Er h R 0->l.length<=1000000000000->Zam h S z' v'->P v' ->
      (∀ x h',rdE v' = .ok x->Zge B T base (m.set j (wrap (l++[x]))) h'->Er h' R 0->Upd (Wr R B base) h h'->K h') ->
      (∀ e l' h',rdE v' = .error e->e≠0->Zge B T base (m.set j (wrap l')) h'->Er h' R e->Upd (Wr R B base) h h'->K h')->ZN1 fh cl z' K h)
    {K:HP} (ok:∀ l h',v.k=6->Zjx rdE v.sub.list = .ok l->Zge B T base (m.set j (wrap l)) h'->Er h' R 0->Upd (Wr R B base) h0 h'->K h')
    (bad:∀ e l' h',(if v.k=6 then Zjx rdE v.sub.list else .error 26) = .error e->Zge B T base (m.set j (wrap l')) h'->Er h' R e->Upd (Wr R B base) h0 h'->K h') :
    Xt Zw fh Yy z (At c1) (At c2) K h0:=by
  unfold Xt
  have hset:m.set j (wrap [])=m:=by
    apply Awy
    intro i
    by_cases hij:j=i
    ·subst hij;rw [Ayv (Azj.1 hj).1,hj]
    ·rw [Azq hij]
  refine YX fun h3 c3' e3 z3=>?_
  have cv:obj h3 h0.size=some (.cells (Xl z).toArray 33 (0,0)):=c3'
  obtain ⟨T1,b1⟩:=box1
  obtain ⟨T2,b2⟩:=box2
  obtain ⟨v1,v2,v3,v4,cx,v5,v6,v7⟩:=hv
  have er3:=er.ext e3
  refine Zb9 (c:=c1) ⟨T1,Zl b1 e3⟩ (rI (Zb cv rfl) (rS (Zb cv rfl) (rL (s:=z.2.2.1) (Zb cv rfl) (rL (s:=z.2.2.2.1) (Zb cv rfl) (ZiG er3 (fun he h4 e4=>Zm rfl ?_) fun hne h4 r4 u4=>Zn rfl ?_)))))
  ·have e34:=e3.trans e4
   have c4:=Zl cv e4
   have hk:v.k=6:=by have:z.1=6:=he;omega
   have hlen:z.2.2.1.len=v.sub.len:=by have:=v5.len;have:=v7.len;omega
   have big:=v5.big
   have cap:=v5.cap
   refine rL (s:=z.2.2.1) (Zb c4 rfl) (Zv (fun p h'=>∃ i:Nat,p.1=i/\i<=v.sub.len/\∃ l:List α,Zjx rdE (v.sub.list.take i) = .ok l/\l.length<=i/\Zge B T base (m.set j (wrap l)) h'/\Er h' R 0/\Upd (Wr R B base) h0 h') (fun p _=>(v.sub.len - p.1).toNat)
     ⟨0,rfl,Ayk _,[],rfl,Aqo _,by rw [hset];exact rc.ext e34,er.ext e34,e34.upd _⟩ ?_)
   rintro ⟨i0,u⟩ h5 ⟨i,hi,hle,l,hl,hll,rc5,er5,u5⟩
   dsimp only at hi ⊢
   subst hi
   have keep:∀ b,S b->b<sz h0->obj h5 b=obj h0 b:=fun b hb hl=>Zo u5 hl fun hw=>by
     obtain ⟨a1,a2,a3⟩:=hS b hb
     rcases hw with e | e | e<;>first
       | exact a2 e
       | exact a3 e
       | omega
   refine Zt (fun hlt=>?_) fun hge=>?_
   ·have hia:i<v.sub.len:=by omega
    obtain ⟨k,t,ns,s,r,hd⟩:=JL.drop_cons hia
    have row5:Row h5 z.2.2.1 4 cx:=Yi v5 v6 keep
    have lst5:Xm h5 S v.sub cx:=v7.keep keep fun _ h=>h
    obtain ⟨hnE,hnO⟩:=Zxj (f:=rdE) (JL.list_get hd) hl
    refine ZfW row5 lst5 hd rfl fun z' hz'=>YX fun h6 c6 e6 z6=>ZeW c6 (by show 4<=4;omega) rfl fun h7 c7 u7 z7=>?_
    have szh:sz h0<=sz h5:=u5.size
    have hsz5:sz h5=h5.size:=rfl
    have u57:Ext h5 h7:=⟨by have:=e6.size;have:sz h6=h6.size:=rfl;have:sz h7=h7.size:=rfl;omega,fun b hb=>by rw [show h7[b]?=h6[b]? from Zo u7 (show b<sz h6 by have:=e6.size;have:sz h6=h6.size:=rfl;omega) (by omega)];exact e6.old b hb⟩
    have c7':obj h7 h5.size=some (.cells (Xl z').toArray 33 (0,0)):=c7
    have u07:Upd (Wr R B base) h0 h7:=u5.trans (u57.upd _)
    have bx1:obj h7 c1=some (.cells [.pointer (At R)].toArray T1 (0,0)):=ZB b1 u07 fun hw=>by rcases hw with e | e | e<;>omega
    have bx2:obj h7 c2=some (.cells [cl].toArray T2 (0,0)):=ZB b2 u07 fun hw=>by rcases hw with e | e | e<;>omega
    have hz7:Zam h7 S z' ⟨k,t,ns,s⟩:=hz'.keep (fun b hb hl=>Zq u57 hl) fun _ h=>h
    refine Zu (rV (Zb bx2 rfl) (rI (Zb c7' rfl) (rS (Zb c7' rfl) (rL (s:=z'.2.2.1) (Zb c7' rfl) (rL (s:=z'.2.2.2.1) (Zb c7' rfl) ?_)))))
    refine hE (h:=h7) (l:=l) (z':=z') (v':=⟨k,t,ns,s⟩) u07 (rc5.ext u57) (er5.ext u57) (by omega) hz7 (hP _ (Axq (JL.list_get hd))) (fun x h8 hx r8 e8 u8=>?_) fun e l' h8 hx h9 r8 e8 u8=>?_
    ·have u08:=u07.trans u8
     refine Zb9 (c:=c1) ⟨T1,ZB b1 u08 fun hw=>by rcases hw with e | e | e<;>omega⟩ (Zu (ZeU e8 (Zm rfl ?_)))
     rw [Yt (by omega) (by omega)]
     exact ⟨⟨i+1,rfl,by omega,l++[x],hnO x hx,by simp;omega,r8,e8,u08⟩,by omega⟩
    ·have u08:=u07.trans u8
     refine Zb9 (c:=c1) ⟨T1,ZB b1 u08 fun hw=>by rcases hw with e | e | e<;>omega⟩ (Zu (ZeU e8 (Zn (by simp;omega) (bad e l' h8 ?_ r8 e8 u08))))
     rw [if_pos hk]
     exact hnE e hx
   ·have:i=v.sub.len:=by omega
    subst this
    rw [Awd (by rw [JL.list_len];omega)] at hl
    exact ok l h5 hk hl rc5 er5 u5
  ·have hk:v.k≠6:=fun e=>hne (show z.1=6 by omega)
   refine bad 26 [] h4 (if_neg hk) ?_ r4 (UN e3 (u4.mono fun _ _ e=> .inl e))
   rw [hset]
   exact (rc.ext e3).upd u4 ne fun b e=> .inl (by rw [e];exact rb)
end Go.Proofs.YtpjbjdheeemdiaaGreatDoor
namespace Go.Js
open Go
theorem Zqb {κ:Type} {a:BL}:∀ {F:List (BL × κ)} {i j:Nat} {k:κ},Zbs a F i=some (j,k)->∃ n,j=i+n/\F[n]?=some (a,k)
  | [],_,_,_,h=>by cases h
  | (b,k0)::r,i,j,k,h=>by
    simp only [Zbs] at h
    split at h
    ·rename_i hb
     cases h
     exact ⟨0,rfl,by simp [hb]⟩
    ·obtain ⟨n,h1,h2⟩:=Zqb h
     exact ⟨n+1,by omega,by simpa using h2⟩
theorem Y2 {κ:Type} {a:BL} {F:List (BL × κ)} {j:Nat} {k:κ} (h:Zbs a F 0=some (j,k)):F[j]?=some (a,k):=by
  obtain ⟨n,h1,h2⟩:=Zqb h
  rw [show j=n by omega]
  exact h2
theorem Zqa {κ:Type} {a b:BL} {F:List (BL × κ)} {j:Nat} {k k':κ} (h:Zbs a F 0=some (j,k)) (h':Zbs b F 0=some (j,k')):a=b:=by
  have h1:=Y2 h
  rw [Y2 h'] at h1
  cases h1
  rfl
structure OkZ {κ μ:Type} (rd:κ->JV->Except Nat μ) (F:List (BL × κ)) (seen:List BL) (zs:List (BL × JV)) (m0 m:List μ):Prop where
  fresh:∀ p,p∈zs->p.1∉seen
  nodup:(zs.map (·.1)).Nodup
  each:∀ p,p∈zs->∃ j k x,Zbs p.1 F 0=some (j,k)/\rd k p.2 = .ok x/\m[j]?=some x
  len:m.length=m0.length
  rest:∀ j,(∀ p,p∈zs->∀ k,Zbs p.1 F 0≠some (j,k))->m[j]?=m0[j]?
theorem Zh2 {κ μ:Type} {rd:κ->JV->Except Nat μ} {F:List (BL × κ)}:∀ {zs:List (BL × JV)} {seen:List BL} {m0 m:List μ},F.length=m0.length->(Zgo rd F seen zs m0 = .ok m↔OkZ rd F seen zs m0 m)
  | [],seen,m0,m,hF=>by
    constructor
    ·intro h
     cases h
     exact ⟨fun p hp=>by simp at hp,by simp,fun p hp=>by simp at hp,rfl,fun _ _=>rfl⟩
    ·intro h
     have:m=m0:=Awy fun j=>h.rest j fun p hp=>by simp at hp
     rw [this]
     rfl
  | (a,v)::r,seen,m0,m,hF=>by
    simp only [Zgo]
    constructor
    ·intro h
     split at h
     ·cases h
     ·rename_i j k hf
      split at h
      ·cases h
      ·rename_i hs
       split at h
       ·cases h
       ·rename_i x hx
        have hl:j<m0.length:=by rw [<- hF];exact (Azj.1 (Y2 hf)).1
        have o:=(Zh2 (by simpa using hF)).1 h
        have hna:∀ p,p∈r->p.1≠a:=fun p hp e=>o.fresh p hp (by simp [e])
        refine ⟨fun p hp=>?_,?_,fun p hp=>?_,by simpa using o.len,fun j' hj'=>?_⟩
        ·rcases Awr.1 hp with e | hp
         ·rw [e];exact hs
         ·exact fun e=>o.fresh p hp (by simp [e])
        ·rw [Awo,Azr]
         refine ⟨fun hm=>?_,o.nodup⟩
         obtain ⟨p,hp,e⟩:=Ayw.1 hm
         exact hna p hp e
        ·rcases Awr.1 hp with e | hp
         ·subst e
          refine ⟨j,k,x,hf,hx,?_⟩
          rw [o.rest j fun p hp k' hk'=>hna p hp (Zqa hk' hf),Ayv hl]
         ·exact o.each p hp
        ·have hne:j≠j':=fun e=>hj' (a,v) (by simp) k (by rw [<- e];exact hf)
         rw [o.rest j' fun p hp=>hj' p (by simp [hp]),Azq hne]
    ·intro h
     obtain ⟨j,k,x,hf,hx,hm⟩:=h.each (a,v) (by simp)
     dsimp only at hf hx
     have hl:j<m0.length:=by rw [<- hF];exact (Azj.1 (Y2 hf)).1
     have hs:a∉seen:=h.fresh (a,v) (by simp)
     have hnd:=h.nodup
     rw [Awo,Azr] at hnd
     rw [hf]
     dsimp only
     rw [if_neg hs,hx]
     dsimp only
     refine (Zh2 (by simpa using hF)).2 ⟨fun p hp e=>?_,hnd.2,fun p hp=>h.each p (by simp [hp]),by simpa using h.len,fun j' hj'=>?_⟩
     ·rcases Axz.1 e with e | e
      ·exact h.fresh p (by simp [hp]) e
      ·exact hnd.1 (Ayw.2 ⟨p,hp,by simpa using e⟩)
     ·by_cases hj:j=j'
      ·subst hj
       rw [hm,Ayv hl]
      ·rw [Azq hj]
       refine h.rest j' fun p hp k' hk'=>?_
       rcases Awr.1 hp with e | hp
       ·subst e
        rw [hf] at hk'
        cases hk'
        exact hj rfl
       ·exact hj' p hp k' hk'
def ZEe (v:JV):List (BL × JV):=v.ns.zip v.sub.list
theorem ZgI {κ μ:Type} {rd:κ->JV->Except Nat μ} {F:List (BL × κ)} {m0 m:List μ} {v:JV} (hF:F.length=m0.length) :
    Xp rd F m0 v = .ok m↔(v.k=7/\v.ns.length=v.sub.len)/\OkZ rd F [] (ZEe v) m0 m:=by
  unfold Xp
  constructor
  ·intro h
   split at h
   ·rename_i hc;exact ⟨hc,(Zh2 hF).1 h⟩
   ·cases h
  ·rintro ⟨hc,h⟩
   rw [if_pos hc]
   exact (Zh2 hF).2 h
theorem OkZ.perm {κ μ:Type} {rd:κ->JV->Except Nat μ} {F:List (BL × κ)} {zs zs':List (BL × JV)} {m0 m:List μ} (o:OkZ rd F [] zs m0 m) (hp:(zs'.map (·.1)).Perm (zs.map (·.1))) (hz:∀ p,p∈zs'->∃ w,(p.1,w)∈zs/\∀ j k x,Zbs p.1 F 0=some (j,k)->rd k w = .ok x->rd k p.2 = .ok x):OkZ rd F [] zs' m0 m:=by
  refine ⟨fun p _=>by simp,hp.symm.nodup o.nodup,fun p hp'=>?_,o.len,fun j hj=>o.rest j fun p hp' k hk=>?_⟩
  ·obtain ⟨w,hw,hr⟩:=hz p hp'
   obtain ⟨j,k,x,h1,h2,h3⟩:=o.each _ hw
   exact ⟨j,k,x,h1,hr j k x h1 h2,h3⟩
  ·have:p.1∈zs'.map (·.1):=hp.mem_iff.2 (Ayw.2 ⟨p,hp',rfl⟩)
   obtain ⟨q,hq,e⟩:=Ayw.1 this
   exact hj q hq k (by rw [e];exact hk)
end Go.Js
namespace Go.Proofs.YtpjbjdheeemdiaaGreatDoor
open Go Go.Fw Go.Js
def ZN0 (fa:ZqG) (cl:Value) (z:VT5) (K:HP) (h:Zc):Prop :=
  (exG cl (fun c:Option Addr × Option Addr × Unit=> .func (.func 211) #[] ⟨[.pointer c.1,.pointer c.2.1]⟩) fun c=>YT z c.1 c.2.1 K h) \/
  ((exG cl (fun c:Option Addr × Option Addr × Unit=> .func (.func 212) #[] ⟨[.pointer c.1,.pointer c.2.1]⟩) fun c=>YY z c.1 c.2.1 K h) \/
  ((exG cl (fun c:Option Addr × Option Addr × Unit=> .func (.func 213) #[] ⟨[.pointer c.1,.pointer c.2.1]⟩) fun c=>YB z c.1 c.2.1 K h) \/
  ((exG cl (fun c:Option Addr × Option Addr × Option Addr × Unit=> .func (.func 214) #[] ⟨[.pointer c.1,.pointer c.2.1,.pointer c.2.2.1]⟩) fun c=>YS z c.1 c.2.1 c.2.2.1 K h) \/
  ((exG cl (fun c:Option Addr × Option Addr × Unit=> .func (.func 216) #[] ⟨[.pointer c.1,.pointer c.2.1]⟩) fun c=>fa z c.1 c.2.1 K h) \/
  ((exG cl (fun c:Option Addr × Option Addr × Option Addr × Unit=> .func (.func 57) #[] ⟨[.pointer c.1,.pointer c.2.1,.pointer c.2.2.1]⟩) fun c=>YU z c.1 c.2.1 c.2.2.1 K h)\/False)))))
theorem ZwO {κ μ:Type} {rd:κ->JV->Except Nat μ} {F:List (BL × κ)} {ns:List BL} {l:List JV} (hlen:ns.length=l.length) {i:Nat} {a:BL} {v:JV} (ha:ns[i]?=some a) (hv:l[i]?=some v) (m:List μ) :
    Zgo rd F (ns.take i) ((ns.zip l).drop i) m=match Zbs a F 0 with
     | none=> .error 26
     | some (j,k)=>if a∈ns.take i then .error 26 else match rd k v with
       | .error e=> .error e
       | .ok x=>Zgo rd F (ns.take (i+1)) ((ns.zip l).drop (i+1)) (m.set j x):=by
  have hi:=(Azj.1 ha).1
  have hz:(ns.zip l)[i]?=some (a,v):=by rw [List.getElem?_zip_eq_some];exact ⟨ha,hv⟩
  have hd:(ns.zip l).drop i=(a,v)::(ns.zip l).drop (i+1):=by
    obtain ⟨h1,h2⟩:=Azj.1 hz
    rw [Ayl h1,h2]
  have ht:ns.take (i+1)=ns.take i++[a]:=by rw [Ayu,ha];rfl
  rw [hd,ht]
  rfl
theorem Zm5 {κ μ:Type} {rd:κ->JV->Except Nat μ} {F:List (BL × κ)} {fa:ZqG} {tgt:List μ->Zc->Prop} {W:Nat->Prop} {h0:Zc} {R mb n:Nat} {f:BL->Option Value} {cls:Nat->Value} {m0:List μ} (er:Er h0 R 0) (tg0:tgt m0 h0) (hWR:W R) (hnb:¬ W h0.size)
    (hmap:ZoW h0 mb f n) (hf:∀ a,f a=(Zbs a F 0).map fun p=>cls p.1) (hmb:¬ W mb) (hfn:∀ a j k,Zbs a F 0=some (j,k)->∃ g x y,cls j = .func g x y) (htg:∀ {m:List μ} {h h':Zc},tgt m h->sz h0<=sz h->Upd (· = R) h h'->tgt m h')
    {z:VT5} {v:JV} {S:Nat->Prop} {P:JV->Prop} (hv:Zam h0 S z v) (hS:∀ b,S b->b<sz h0/\¬ W b) (hP:∀ w,w∈v.sub.list->P w)
    (hE:∀ {h:Zc} {m:List μ} {j:Nat} {k:κ} {a:BL} {z':VT5} {v':JV} {K:HP},Upd W h0 h->sz h0<sz h->tgt m h->Er h R 0->Zbs a F 0=some (j,k)->Zam h S z' v'->P v'->m[j]?=m0[j]? ->
      (∀ x h',rd k v' = .ok x->tgt (m.set j x) h'->Er h' R 0->Upd W h h'->K h')->(∀ e m' h',rd k v' = .error e->e≠0->tgt m' h'->Er h' R e->Upd W h h'->K h')->ZN0 fa (cls j) z' K h)
    {K:HP} (ok:∀ m h',Xp rd F m0 v = .ok m->tgt m h'->Er h' R 0->Upd W h0 h'->K h') (bad:∀ e m h',Xp rd F m0 v = .error e->tgt m h'->Er h' R e->Upd W h0 h'->K h') :
    X5 Ye ZY YT YY YB YS fa YU (At R) z (some mb) K h0:=by
  unfold X5
  refine YX fun h3 c3' e3 z3=>?_
  have cv:obj h3 h0.size=some (.cells (Xl z).toArray 33 (0,0)):=c3'
  obtain ⟨v1,v2,v3,v4,cx,v5,v6,v7⟩:=hv
  have er3:=er.ext e3
  have sz03:sz h0<=sz h3:=e3.size
  have tg3:tgt m0 h3:=htg tg0 (Aqo _) (e3.upd _)
  have nlen:=ZaQ v3
  have llen:z.2.2.1.len=v.sub.len:=by have:=v5.len;have:=v7.len;omega
  refine rI (Zb cv rfl) (Zax (fun hne=>Zu (ZhQ er3 rfl fun h4 r4 u4 _=>?_)) fun he=>?_)
  ·have hk:v.k≠7:=fun e=>hne (show z.1=7 by omega)
   exact bad 26 m0 h4 (by unfold Xp;rw [if_neg fun h=>hk h.1]) (htg tg3 sz03 u4) r4 (UN e3 (u4.mono fun _ _ e=>e▸hWR))
  have hk:v.k=7:=by have:z.1=7:=he;omega
  refine rL (s:=z.2.2.2.1) (Zb cv rfl) (rL (s:=z.2.2.1) (Zb cv rfl) (Zax (fun hne=>Zu (ZhQ er3 rfl fun h4 r4 u4 _=>?_)) fun hel=>?_))
  ·have hl:¬ v.ns.length=v.sub.len:=fun e=>hne (by rw [nlen,llen,e])
   exact bad 26 m0 h4 (by unfold Xp;rw [if_neg fun h=>hl h.2]) (htg tg3 sz03 u4) r4 (UN e3 (u4.mono fun _ _ e=>e▸hWR))
  have hl:v.ns.length=v.sub.len:=by omega
  have hobj:Xp rd F m0 v=Zgo rd F [] (v.ns.zip v.sub.list) m0:=by unfold Xp;rw [if_pos ⟨hk,hl⟩]
  have hzl:v.ns.length=v.sub.list.length:=by rw [JL.list_len];exact hl
  have big:=v3.big
  have cap:=v3.cap
  refine rL (s:=z.2.2.2.1) (Zb cv rfl) (Zv (fun p h'=>∃ (i:Nat) (m:List μ),p.1=i/\i<=v.ns.length/\Xp rd F m0 v=Zgo rd F (v.ns.take i) ((v.ns.zip v.sub.list).drop i) m/\tgt m h'/\Er h' R 0/\Upd W h3 h'/\∀ j,(∀ b,b∈v.ns.take i->∀ k,Zbs b F 0≠some (j,k))->m[j]?=m0[j]?) (fun p _=>(v.ns.length - p.1).toNat)
    ⟨0,m0,rfl,Ayk _,by simpa using hobj,tg3,er3,Upd.refl _ _,fun _ _=>rfl⟩ ?_)
  rintro ⟨i0,u⟩ h5 ⟨i,m,hi,hle,hq,tg5,er5,u5,hrest⟩
  dsimp only at hi ⊢
  subst hi
  have u05:Upd W h0 h5:=UN e3 u5
  have sz5:sz h3<=sz h5:=u5.size
  have keep:∀ b,S b->b<sz h0->obj h5 b=obj h0 b:=fun b hb hl=>Zo u05 hl (hS b hb).2
  refine Zt (fun hlt=>?_) fun hge=>?_
  ·have hia:i<v.ns.length:=by omega
   obtain ⟨a,ha⟩:∃ a,v.ns[i]?=some a:=⟨v.ns[i],Ayb hia⟩
   obtain ⟨k,t,ns',s,r,hd⟩:=JL.drop_cons (l:=v.sub) (n:=i) (by omega)
   have hvv:=JL.list_get hd
   have rowN:Row h5 z.2.2.2.1 1 (v.ns.map sV):=Yi v3 v4 keep
   have row5:Row h5 z.2.2.1 4 cx:=Yi v5 v6 keep
   have lst5:Xm h5 S v.sub cx:=v7.keep keep fun _ h=>h
   have step:=ZwO (rd:=rd) (F:=F) hzl ha hvv m
   rw [step] at hq
   refine ZfV rowN ha rfl (Za ?_)
   refine (hmap.congr (show h5[mb]?=h0[mb]? from Zo u05 hmap.lt hmb)).get a ?_
   rw [hf a]
   cases hfa:Zbs a F 0 with
   | none =>
     rw [hfa] at hq
     exact .inl ⟨rfl,Zn rfl (Zu (ZhQ er5 rfl fun h6 r6 u6 _=>bad 26 m h6 hq (htg tg5 (by omega) u6) r6 (u05.trans (u6.mono fun _ _ e=>e▸hWR))))⟩
   | some p =>
     obtain ⟨j,k2⟩:=p
     obtain ⟨g,x,y,hc⟩:=hfn a j k2 hfa
     rw [hfa] at hq
     simp only at hq
     have c5:=ZB cv u5 hnb
     refine .inr ⟨g,x,y,hc,Zm rfl (rL (s:=z.2.2.2.1) (Zb c5 rfl) (rowN.slc (a:=0) (b:=i) (m:=z.2.2.2.1.cap) rfl rfl rfl (by omega) (by omega) (by omega) (Aqo _) fun s' rs' _ _ _=>?_))⟩
     have rs2:Row h5 s' 1 ((v.ns.take i).map sV):=by simpa [List.map_take] using rs'
     refine ZlV rs2 ?_
     by_cases hm:a∈v.ns.take i
     ·rw [decide_eq_true hm]
      rw [if_pos hm] at hq
      exact Zn rfl (Zu (ZhQ er5 rfl fun h6 r6 u6 _=>bad 26 m h6 hq (htg tg5 (by omega) u6) r6 (u05.trans (u6.mono fun _ _ e=>e▸hWR))))
     ·rw [decide_eq_false hm]
      rw [if_neg hm] at hq
      refine Zm rfl (rL (s:=z.2.2.1) (Zb c5 rfl) (ZfW row5 lst5 hd rfl fun z' hz'=>?_))
      refine hE (h:=h5) (m:=m) (j:=j) (k:=k2) (a:=a) (z':=z') (v':=⟨k,t,ns',s⟩) u05 (by have:=u5.size;have:sz h3=h3.size:=rfl;have:sz h5=h5.size:=rfl;have:sz h0=h0.size:=rfl;omega) tg5 er5 hfa hz' (hP _ (Axq hvv)) (hrest j fun b hb k' hk'=>hm (Zqa hk' hfa▸hb)) (fun x h8 hx tg8 e8 u8=>?_) fun e m' h8 hx h9 tg8 e8 u8=>?_
      ·refine Zu (ZeU e8 (Zm rfl ?_))
       rw [Yt (by omega) (by omega)]
       refine ⟨⟨i+1,m.set j x,rfl,by omega,?_,tg8,e8,u5.trans u8,fun j' hj'=>?_⟩,by omega⟩
       ·rw [hq,hx]
       ·have ht:v.ns.take (i+1)=v.ns.take i++[a]:=by rw [Ayu,ha];rfl
        rw [ht] at hj'
        rw [Azq fun e=>hj' a (by simp) k2 (by rw [hfa,e])]
        exact hrest j' fun b hb=>hj' b (by simp [hb])
      ·refine Zu (ZeU e8 (Zn (by simp;omega) (bad e m' h8 ?_ tg8 e8 (u05.trans u8))))
       rw [hq,hx]
  ·have:i=v.ns.length:=by omega
   subst this
   rw [Azf (by rw [List.length_zip];exact Nat.min_le_left _ _)] at hq
   exact ok m h5 hq tg5 er5 u05
theorem ZpQ {m:List MV} {j:Nat} (h:Zml m j) (x:MV):Zml (m.set j x) j:=fun i y hy hne=>h i y (by rwa [Azq (fun e=>hne e.symm)] at hy) hne
theorem Zy5 {fh:ZnB} {h0:Zc} {R B:Nat} {T:TypeId} {base:Nat} {m:List MV} {c1 c2 c3:Nat} (er:Er h0 R 0) (rc:Zge B T base m h0) (ne:B≠R) (rb:R<base) (bb:B<base) (hbase:base<=sz h0)
    (box1:∃ T1,obj h0 c1=some (.cells [.pointer (At R)].toArray T1 (0,0))) (box3:∃ T1,obj h0 c3=some (.cells [.pointer (At R)].toArray T1 (0,0)))
    (box2:∃ T2,obj h0 c2=some (.cells [.func (.func 145) #[] #[.pointer (At c3),.pointer (At B)]].toArray T2 (0,0))) (n1:c1<base/\c1≠R/\c1≠B) (n2:c2<base/\c2≠R/\c2≠B) (n3:c3<base/\c3≠R/\c3≠B)
    {z:VT5} {v:JV} {S:Nat->Prop} (hv:Zam h0 S z v) (hS:∀ b,S b->b<base/\b≠R/\b≠B) (hj:m[2]?=some (.ts [])) (hlf:Zml m 2) (hcnt:v.sub.len<=1000000000000)
    {K:HP} (ok:∀ x h',Zdg .texts v = .ok x->Zge B T base (m.set 2 x) h'->Er h' R 0->Upd (Wr R B base) h0 h'->K h')
    (bad:∀ e m' h',Zdg .texts v = .error e->m'.map mk=m.map mk->Zge B T base m' h'->Er h' R e->Upd (Wr R B base) h0 h'->K h') :
    Xt Zw fh Yy z (At c1) (At c2) K h0:=by
  obtain ⟨T3,b3⟩:=box3
  refine Zta (rdE:=ZpB) (wrap:=MV.ts) (P:=fun _=>True) er rc ne rb bb hbase box1 box2 n1 n2 hv hS (fun _ _=>trivial) hj hcnt (fun {h l z' v' K'} u r e hl hz _ ok' bad'=>?_) (fun l h' hk hm r e u=>ok (.ts l) h' (by simp [Zdg,hk,hm]) r e u) fun e l' h' hres r e' u=>bad e (m.set 2 (.ts l')) h' ?_ (Zsx hj rfl) r e' u
  ·refine .inr (.inl ⟨(At c3,At B,()),rfl,?_⟩)
   have hu:sz h0<=sz h:=u.size
   refine ZwU (v:=v') e r ne rb bb (by omega) ⟨T3,ZB b3 u fun hw=>by rcases hw with e | e | e<;>omega⟩ (l:=l) (by rw [Ayv (Azj.1 hj).1]) (ZpQ hlf _) hl hz.1 hz.2.1 (fun h' hk r' e' u'=>?_) fun h' hk r' e' u'=>?_
   ·rw [List.set_set] at r'
    exact ok' v'.t h' (by simp [ZpB,hk]) r' e' u'
   ·exact bad' 26 l h' (by simp [ZpB,hk]) (by omega) r' e' u'
  ·by_cases hk:v.k=6
   ·rw [if_pos hk] at hres
    simp [Zdg,hk,hres]
   ·rw [if_neg hk] at hres
    cases hres
    simp [Zdg,hk]
def ZFW (h:Zc) (S:Nat->Prop) (v:Value) (l:JL):Prop:=∃ x cx,v=slV x/\Row h x 4 cx/\inS S x/\Xm h S l cx
def ZhU (B:Nat) (T:TypeId) (S:Nat->Prop) (ls:List JL) (h:Zc):Prop :=
  ∃ vs:List Value,obj h B=some (.cells vs.toArray T (0,0))/\vs.length=ls.length/\∀ (i:Nat) (l:JL),ls[i]?=some l->∃ v:Value,vs[i]?=some v/\ZFW h S v l
theorem ZFW.keep {h h':Zc} {S:Nat->Prop} {v:Value} {l:JL} (r:ZFW h S v l) (he:∀ b,S b->b<sz h->obj h' b=obj h b):ZFW h' S v l:=by
  obtain ⟨x,cx,e,a,b,c⟩:=r
  exact ⟨x,cx,e,Yi a b he,b,c.keep he fun _ h=>h⟩
theorem ZhU.upd {W:Nat->Prop} {B:Nat} {T:TypeId} {S:Nat->Prop} {ls:List JL} {h h':Zc} (r:ZhU B T S ls h) (u:Upd W h h') (hB:¬ W B) (hs:∀ b,S b->¬ W b):ZhU B T S ls h':=by
  obtain ⟨vs,c,l,g⟩:=r
  exact ⟨vs,ZB c u hB,l,fun i x hx=>let ⟨v,h1,h2⟩:=g i x hx;⟨v,h1,h2.keep fun b hb hl=>Zo u hl (hs b hb)⟩⟩
theorem ZCP {h:Zc} {R B:Nat} {T:TypeId} {S:Nat->Prop} {ls:List JL} {j c1 c3:Nat} (er:Er h R 0) (rt:ZhU B T S ls h) (ne:B≠R) (hls:ls.length=5) (hj:j<5) (hSR:∀ b,S b->b≠R/\b≠B)
    (box1:∃ T1,obj h c1=some (.cells [.pointer (At R)].toArray T1 (0,0))) (box3:∃ T3,obj h c3=some (.cells [.int .i64 (j:Int)].toArray T3 (0,0))) {z:VT5} {v:JV} (hv:Zam h S z v) {K:HP}
    (ok:∀ x h',Zib () v = .ok x->ZhU B T S (ls.set j x) h'->Er h' R 0->Upd (fun b=>b=R\/b=B) h h'->K h')
    (bad:∀ e h',Zib () v = .error e->e≠0->ZhU B T S ls h'->Er h' R e->Upd (fun b=>b=R\/b=B) h h'->K h'):YU z (At c1) (At B) (At c3) K h:=by
  unfold YU Zbr
  refine YX fun h3 c3' e3 z3=>?_
  have cv:obj h3 h.size=some (.cells (Xl z).toArray 33 (0,0)):=c3'
  obtain ⟨T1,b1⟩:=box1
  obtain ⟨T3,b3⟩:=box3
  have er3:=er.ext e3
  have hv3:=hv
  obtain ⟨v1,v2,v3,v4,cx,v5,v6,v7⟩:=hv
  have rt3:ZhU B T S ls h3:=rt.upd (e3.upd fun _=>False) (fun h=>h) fun _ _ h=>h
  refine Zb9 (c:=c1) ⟨T1,Zl b1 e3⟩ (rI (Zb cv rfl) (rS (Zb cv rfl) (rL (s:=z.2.2.1) (Zb cv rfl) (rL (s:=z.2.2.2.1) (Zb cv rfl) (ZiG er3 (fun he h4 e4=>Zn rfl ?_) fun hne h4 r4 u4=>Zm rfl ?_)))))
  ·have e34:=e3.trans e4
   have c4:=Zl cv e4
   have hk:v.k=6:=by have:z.1=6:=he;omega
   obtain ⟨vs,cB,hlen,g⟩:=rt.upd (e34.upd fun _=>False) (fun h=>h) fun _ _ h=>h
   refine Zu (rI (Zb (Zl b3 e34) rfl) (rL (s:=z.2.2.1) (Zb c4 rfl) (Zu ⟨by omega,by omega,?_⟩)))
   show st h4 B (0+(j:Int).toNat*1) _ _
   rw [show 0+(j:Int).toNat*1=j by omega]
   refine Zjw cB (by omega) rfl fun h7 c7 u7 z7=>ok v.sub h7 (by simp [Zib,hk]) ⟨_,c7,by simp [hlen],fun i l hi=>?_⟩ ((er.ext e34).upd u7 fun e=>ne e.symm) (UN e34 (u7.mono fun _ _ e=> .inr e))
   have k7:∀ b,S b->b<sz h4->obj h7 b=obj h4 b:=fun b hb hl=>Zo u7 hl (hSR b hb).2
   by_cases hij:j=i
   ·subst hij
    rw [Ayv (by omega)] at hi
    cases hi
    refine ⟨slV z.2.2.1,by rw [Ayv (by omega)];rfl,z.2.2.1,cx,rfl,?_,v6,?_⟩
    ·exact Yi (Yi v5 v6 fun b _ hl=>Zq e34 hl) v6 k7
    ·exact (v7.keep (S':=S) (fun b _ hl=>Zq e34 hl) fun _ h=>h).keep k7 fun _ h=>h
   ·rw [Azq hij] at hi
    obtain ⟨w,a,b⟩:=g i l hi
    exact ⟨w,by rw [Azq hij];exact a,b.keep k7⟩
  ·have hk:v.k≠6:=fun e=>hne (show z.1=6 by omega)
   exact bad 26 h4 (by simp [Zib,hk]) (by omega) (rt3.upd u4 ne fun b hb=>(hSR b hb).1) r4 (UN e3 (u4.mono fun _ _ e=> .inl e))
def Box (h:Zc) (c:Nat) (v:Value):Prop:=∃ T,obj h c=some (.cells [v].toArray T (0,0))
theorem Box.ext {h h':Zc} {c:Nat} {v:Value} (b:Box h c v) (u:Ext h h'):Box h' c v:=let ⟨T,b⟩:=b;⟨T,Zl b u⟩
theorem ZC2 {h:Zc} {r tO:Option Addr} {K:(Option Addr × Option Addr × Unit)->HP} {T1 T2:TypeId} (hk:∀ c1 c2 h',Ext h h'->sz h<=c1->sz h<=c2->c1<sz h'->c2<sz h'->Box h' c1 (.pointer r)->Box h' c2 (.pointer tO)->K (At c1,At c2,()) h') :
    newC h [.pointer r] T1 fun b h1=>newC h1 [.pointer tO] T2 fun b2 h3=>K (some ⟨b,0,none⟩,some ⟨b2,0,none⟩,()) h3:=by
  refine YX fun h1 c1 e1 z1=>YX fun h2 c2 e2 z2=>?_
  have s1:sz h=h.size:=rfl
  have s2:sz h1=h1.size:=rfl
  have s3:sz h2=h2.size:=rfl
  exact hk h.size h1.size h2 (e1.trans e2) (by omega) (by omega) (by omega) (by omega) ⟨_,Zl c1 e2⟩ ⟨_,c2⟩
theorem Zfm {h:Zc} {r tO:Option Addr} {K:(Option Addr × Option Addr × Unit)->HP} (hk:∀ c1 c2 h',Ext h h'->sz h<=c1->sz h<=c2->c1<sz h'->c2<sz h'->Box h' c1 (.pointer r)->Box h' c2 (.pointer tO)->K (At c1,At c2,()) h'):Ya r tO K h:=ZC2 hk
theorem Y3 {h:Zc} {r tO:Option Addr} {K:(Option Addr × Option Addr × Unit)->HP} (hk:∀ c1 c2 h',Ext h h'->sz h<=c1->sz h<=c2->c1<sz h'->c2<sz h'->Box h' c1 (.pointer r)->Box h' c2 (.pointer tO)->K (At c1,At c2,()) h'):ZQ r tO K h:=ZC2 hk
theorem ZkH {h:Zc} {r tO:Option Addr} {K:(Option Addr × Option Addr × Unit)->HP} (hk:∀ c1 c2 h',Ext h h'->sz h<=c1->sz h<=c2->c1<sz h'->c2<sz h'->Box h' c1 (.pointer r)->Box h' c2 (.pointer tO)->K (At c1,At c2,()) h'):Xz r tO K h:=ZC2 hk
def YD (R B:Nat) (W:Nat->Prop) (k:FK) (j:Nat) (v:Value) (h:Zc):Prop :=
  match k with
  | .text=>∃ c1 c2,v = .func (.func 211) #[] #[.pointer (At c1),.pointer (At c2)]/\(W c1/\W c2)/\Box h c1 (.pointer (At R))/\Box h c2 (.pointer (some ⟨B,j,none⟩))
  | .num=>∃ c1 c2,v = .func (.func 213) #[] #[.pointer (At c1),.pointer (At c2)]/\(W c1/\W c2)/\Box h c1 (.pointer (At R))/\Box h c2 (.pointer (some ⟨B,j,none⟩))
  | .yes=>∃ c1 c2,v = .func (.func 212) #[] #[.pointer (At c1),.pointer (At c2)]/\(W c1/\W c2)/\Box h c1 (.pointer (At R))/\Box h c2 (.pointer (some ⟨B,j,none⟩))
  | .word ws=>∃ c1 c2 c3 x F,v = .func (.func 214) #[] #[.pointer (At c1),.pointer (At c2),.pointer (At c3)]/\(W c1/\W c2/\W c3)/\Box h c1 (.pointer (At R))/\Box h c2 (slV x) /\
      (Row h x 1 (ws.map sV)/\inS W x)/\ZAM F j/\Box h c3 (.func (.func F) #[] #[.pointer (At B)])
  | .texts=>∃ c1 c2 c3,v = .func (.func 216) #[] #[.pointer (At c1),.pointer (At c2)]/\(W c1/\W c2/\W c3)/\Box h c1 (.pointer (At R))/\Box h c2 (.func (.func 145) #[] #[.pointer (At c3),.pointer (At B)])/\Box h c3 (.pointer (At R))
  | .items=>∃ c1 c2 c3,v = .func (.func 216) #[] #[.pointer (At c1),.pointer (At c2)]/\(W c1/\W c2/\W c3)/\Box h c1 (.pointer (At R))/\Box h c2 (.func (.func 143) #[] #[.pointer (At c3),.pointer (At B)])/\Box h c3 (.pointer (At R))
theorem Box.lt {h:Zc} {c:Nat} {v:Value} (b:Box h c v):c<sz h:=let ⟨_,b⟩:=b;ZaJ b
theorem Box.upd {U:Nat->Prop} {h h':Zc} {c:Nat} {v:Value} (b:Box h c v) (u:Upd U h h') (hc:¬ U c):Box h' c v:=let ⟨T,b⟩:=b;⟨T,ZB b u hc⟩
theorem YD.upd {R B:Nat} {W U:Nat->Prop} {k:FK} {j:Nat} {v:Value} {h h':Zc} (g:YD R B W k j v h) (u:Upd U h h') (hU:∀ b,b<sz h->W b->¬ U b):YD R B W k j v h':=by
  have bx:∀ {c:Nat} {v:Value},Box h c v->W c->Box h' c v:=fun b w=>b.upd u (hU _ b.lt w)
  cases k with
  | text=>obtain ⟨c1,c2,e,w,a,b⟩:=g;exact ⟨c1,c2,e,w,bx a w.1,bx b w.2⟩
  | num=>obtain ⟨c1,c2,e,w,a,b⟩:=g;exact ⟨c1,c2,e,w,bx a w.1,bx b w.2⟩
  | yes=>obtain ⟨c1,c2,e,w,a,b⟩:=g;exact ⟨c1,c2,e,w,bx a w.1,bx b w.2⟩
  | word ws=>obtain ⟨c1,c2,c3,x,F,e,w,a,b,c,d,f⟩:=g;exact ⟨c1,c2,c3,x,F,e,w,bx a w.1,bx b w.2.1,⟨Yi c.1 c.2 fun b hb hl=>Zo u hl (hU b hl hb),c.2⟩,d,bx f w.2.2⟩
  | texts=>obtain ⟨c1,c2,c3,e,w,a,b,c⟩:=g;exact ⟨c1,c2,c3,e,w,bx a w.1,bx b w.2.1,bx c w.2.2⟩
  | items=>obtain ⟨c1,c2,c3,e,w,a,b,c⟩:=g;exact ⟨c1,c2,c3,e,w,bx a w.1,bx b w.2.1,bx c w.2.2⟩
theorem YD.ext {R B:Nat} {W:Nat->Prop} {k:FK} {j:Nat} {v:Value} {h h':Zc} (g:YD R B W k j v h) (u:Ext h h'):YD R B W k j v h':=g.upd (u.upd fun _=>False) fun _ _ _ h=>h
theorem YD.fn {R B:Nat} {W:Nat->Prop} {k:FK} {j:Nat} {v:Value} {h:Zc} (g:YD R B W k j v h):∃ f x y,v = .func f x y:=by
  cases k with
  | text=>obtain ⟨c1,c2,e,_⟩:=g;exact ⟨_,_,_,e⟩
  | num=>obtain ⟨c1,c2,e,_⟩:=g;exact ⟨_,_,_,e⟩
  | yes=>obtain ⟨c1,c2,e,_⟩:=g;exact ⟨_,_,_,e⟩
  | word ws=>obtain ⟨c1,c2,c3,x,F,e,_⟩:=g;exact ⟨_,_,_,e⟩
  | texts=>obtain ⟨c1,c2,c3,e,_⟩:=g;exact ⟨_,_,_,e⟩
  | items=>obtain ⟨c1,c2,c3,e,_⟩:=g;exact ⟨_,_,_,e⟩
def ZDL (h h':Zc):Prop:=∃ mb f n,ZoW h mb f n/\Upd (· = mb) h h'
theorem Ziy {d:Nat->Bool} {k i:Nat} (h:i≠k):XL d k i=d i:=by
  unfold XL
  rw [show Nat.beq i k=false from Bool.eq_false_iff.2 fun e=>h (Awg e)]
  rfl
theorem ZwD (d:Nat->Bool) (k:Nat):XL d k k=true:=by
  unfold XL
  rw [show Nat.beq k k=true from Axx k]
  rfl
def Lit {κ:Type} (G:κ->Nat->Value->Zc->Prop) (F:List (BL × κ)) (mi:Nat) (ins:Nat->Nat) (h0:Zc) (d:Nat->Bool) (sm:Option Nat) (h:Zc):Prop :=
  Ext h0 h/\(d mi=false->∀ j,j<F.length->d (ins j)=false)/\(d mi=true->∃ mb f n,sm=some mb/\sz h0<=mb/\ZoW h mb f n/\(∀ a,Zbs a F 0=none->f a=none) /\
    ∀ a j k,Zbs a F 0=some (j,k)->(d (ins j)=false->f a=none)/\(d (ins j)=true->∃ v,f a=some v/\G k j v h))
section
variable {κ:Type} {G:κ->Nat->Value->Zc->Prop} {F:List (BL × κ)} {mi:Nat} {ins:Nat->Nat} {h0:Zc}
theorem Lit.start (h0:Zc) (sm:Option Nat):Lit G F mi ins h0 (fun _=>false) sm h0 :=
  ⟨Ext.refl _,fun _ _ _=>rfl,fun e=>by cases e⟩
theorem Lit.ext {d:Nat->Bool} {sm:Option Nat} {h:Zc} (l:Lit G F mi ins h0 d sm h):Ext h0 h:=l.1
theorem Zp9 {a:BL} {j:Nat} {k:κ} (h:Zbs a F 0=some (j,k)):j<F.length:=(Azj.1 (Y2 h)).1
theorem Lit.make {d:Nat->Bool} {sm:Option Nat} {h:Zc} (l:Lit G F mi ins h0 d sm h) (e0:d mi=false) (hm:∀ j,j<F.length->ins j≠mi) {K:Nat->Zc->Prop} (hk:∀ mb h',Lit G F mi ins h0 (XL d mi) (some mb) h'->Ext h h'->K mb h'):Zij h K:=by
  obtain ⟨l1,l2,l3⟩:=l
  refine ZoW.new fun h1 m1 e1 z1=>hk _ h1 ⟨l1.trans e1,fun e=>?_,fun _=>⟨h.size,_,_,rfl,l1.size,m1,fun _ _=>rfl,fun a j k hf=>⟨fun _=>rfl,fun e=>?_⟩⟩⟩ e1
  ·rw [ZwD] at e
   cases e
  ·rw [Ziy (hm j (Zp9 hf)),l2 e0 j (Zp9 hf)] at e
   cases e
theorem Lit.call {d:Nat->Bool} {sm:Option Nat} {h h':Zc} {c:Nat} (l:Lit G F mi ins h0 d sm h) (u:Ext h h') (hG:∀ {k j v},G k j v h->G k j v h') (hmc:mi≠c) (hc:∀ j,j<F.length->ins j≠c):Lit G F mi ins h0 (XL d c) sm h':=by
  obtain ⟨l1,l2,l3⟩:=l
  refine ⟨l1.trans u,fun e j hj=>?_,fun e=>?_⟩
  ·rw [Ziy hmc] at e
   rw [Ziy (hc j hj)]
   exact l2 e j hj
  ·rw [Ziy hmc] at e
   obtain ⟨mb,f,n,h1,h2,h3,h4,h5⟩:=l3 e
   refine ⟨mb,f,n,h1,h2,h3.congr (u.old _ h3.lt),h4,fun a j k hk=>?_⟩
   rw [Ziy (hc j (Zp9 hk))]
   exact ⟨(h5 a j k hk).1,fun e=>let ⟨v,a1,a2⟩:=(h5 a j k hk).2 e;⟨v,a1,hG a2⟩⟩
theorem Lit.put {d:Nat->Bool} {sm:Option Nat} {h:Zc} (l:Lit G F mi ins h0 d sm h) (em:d mi=true) {j:Nat} {a:BL} {k:κ} {v:Value} (hf:Zbs a F 0=some (j,k)) (hinj:∀ i,i<F.length->ins i=ins j->i=j) {c:Nat} (hc:c=ins j) (hmc:mi≠c) (g:G k j v h)
    (hG:∀ {h' k j v},ZDL h h'->G k j v h->G k j v h') {K:HP} (hk:∀ h',Lit G F mi ins h0 (XL d c) sm h'->Ext h0 h'->ZDL h h'->K h'):Xr .string h sm (sV a) v K:=by
  subst hc
  obtain ⟨l1,l2,l3⟩:=l
  obtain ⟨mb,f,n,rfl,h2,h3,h4,h5⟩:=l3 em
  refine h3.put a v fun h' m' u z=>?_
  have e':Ext h0 h':=l1.then u fun k hk=>by subst hk;exact h2
  have mu:ZDL h h':=⟨_,_,_,h3,u⟩
  have hG':∀ {k j v},G k j v h->G k j v h':=fun g=>hG mu g
  refine hk h' ⟨e',fun e=>?_,fun _=>⟨mb,_,_,rfl,h2,m',fun b hb=>?_,fun b i q hq=>?_⟩⟩ e' mu
  ·rw [Ziy hmc,em] at e
   cases e
  ·rw [ZmA f _ fun e=>by rw [e,hf] at hb;cases hb]
   exact h4 b hb
  ·have hil:=Zp9 hq
   by_cases hij:i=j
   ·subst hij
    obtain rfl:b=a:=by
      have a1:=Y2 hq
      have a2:=Y2 hf
      rw [a1] at a2
      cases a2
      rfl
    rw [hf] at hq
    cases hq
    refine ⟨fun e=>?_,fun _=>⟨v,ZnQ _ _ _,hG' g⟩⟩
    rw [ZwD] at e
    cases e
   ·rw [Ziy fun e=>hij (hinj i hil e),ZmA f _ fun e=>by
      rw [e,hf] at hq
      cases hq
      exact hij rfl]
    exact ⟨(h5 b i q hq).1,fun e=>let ⟨w,a1,a2⟩:=(h5 b i q hq).2 e;⟨w,a1,hG' a2⟩⟩
theorem Lit.all {d:Nat->Bool} {sm:Option Nat} {h:Zc} (l:Lit G F mi ins h0 d sm h) (em:d mi=true) (hd:∀ j,j<F.length->d (ins j)=true) :
    ∃ (mb:Nat) (f:BL->Option Value) (n:Nat) (cls:Nat->Value),sm=some mb/\sz h0<=mb/\ZoW h mb f n/\(∀ a,f a=(Zbs a F 0).map fun p=>cls p.1)/\∀ a j k,Zbs a F 0=some (j,k)->G k j (cls j) h:=by
  obtain ⟨l1,l2,l3⟩:=l
  obtain ⟨mb,f,n,rfl,h2,h3,h4,h5⟩:=l3 em
  refine ⟨mb,f,n,fun j=>match F[j]? with
    | some p=>(f p.1).getD .nilFunc
    | none=> .nilFunc,rfl,h2,h3,fun a=>?_,fun a j k hk=>?_⟩
  ·cases hf:Zbs a F 0 with
   | none=>exact h4 a hf
   | some p =>
     obtain ⟨j,k⟩:=p
     obtain ⟨v,a1,a2⟩:=(h5 a j k hf).2 (hd j (Zp9 hf))
     simp only [Aqx,Y2 hf,a1,Axo]
  ·obtain ⟨v,a1,a2⟩:=(h5 a j k hk).2 (hd j (Zp9 hk))
   simp only [Y2 hk,a1,Axo]
   exact a2
end
theorem Box.map {h h':Zc} {c:Nat} {v:Value} (u:ZDL h h') (b:Box h c v):Box h' c v:=by
  obtain ⟨mb,f,n,⟨es,c',hb,_⟩,u⟩:=u
  refine b.upd u fun e=>?_
  obtain ⟨T,b⟩:=b
  subst e
  rw [show obj h c=h[c]? from rfl,hb] at b
  cases b
theorem Xo {h h':Zc} {x:Sl} {n:Nat} {vs:List Value} (u:ZDL h h') (r:Row h x n vs):Row h' x n vs:=by
  obtain ⟨mb,f,k,⟨es,c',hb,_⟩,u⟩:=u
  refine r.congr fun b o hp hne hl=>Zo u hl fun e=>?_
  subst e
  rcases r.at_ with h0 | ⟨b',o',hp',hh⟩
  ·exact hne (r.nil_of h0)
  ·rw [hp] at hp'
   cases hp'
   cases vs with
   | nil=>exact hne rfl
   | cons v0 vr =>
     have:=hh.1
     unfold Zc.cell at this
     rw [hb] at this
     cases this
theorem YD.map {R B:Nat} {W:Nat->Prop} {k:FK} {j:Nat} {v:Value} {h h':Zc} (u:ZDL h h') (g:YD R B W k j v h):YD R B W k j v h':=by
  cases k with
  | text=>obtain ⟨c1,c2,e,w,a,b⟩:=g;exact ⟨c1,c2,e,w,a.map u,b.map u⟩
  | num=>obtain ⟨c1,c2,e,w,a,b⟩:=g;exact ⟨c1,c2,e,w,a.map u,b.map u⟩
  | yes=>obtain ⟨c1,c2,e,w,a,b⟩:=g;exact ⟨c1,c2,e,w,a.map u,b.map u⟩
  | word ws=>obtain ⟨c1,c2,c3,x,F,e,w,a,b,c,d,f⟩:=g;exact ⟨c1,c2,c3,x,F,e,w,a.map u,b.map u,⟨Xo u c.1,c.2⟩,d,f.map u⟩
  | texts=>obtain ⟨c1,c2,c3,e,w,a,b,c⟩:=g;exact ⟨c1,c2,c3,e,w,a.map u,b.map u,c.map u⟩
  | items=>obtain ⟨c1,c2,c3,e,w,a,b,c⟩:=g;exact ⟨c1,c2,c3,e,w,a.map u,b.map u,c.map u⟩
end Go.Proofs.YtpjbjdheeemdiaaGreatDoor
