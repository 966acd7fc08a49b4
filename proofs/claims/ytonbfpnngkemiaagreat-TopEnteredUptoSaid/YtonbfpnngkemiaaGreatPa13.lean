/- The rules' laws, carved from the rulejson texts (tools/carvedep.py). -/
import Derived.Test.YtonbfpnngkemiaaGreatPa12
set_option linter.unusedVariables false
set_option linter.unusedSimpArgs false
namespace Go.Js
abbrev Zx(l:List UInt8):ByteArray:=⟨l.toArray⟩
end Go.Js
namespace Go.Js
open Go Go.Fw Go.Js
abbrev BL:=List UInt8
end Go.Js
namespace Go.Js.JL
open Go Go.Fw Go.Js
end Go.Js.JL
namespace Go.Js
open Go Go.Fw Go.Js
end Go.Js
namespace Go.Proofs.YtonbfpnngkemiaaGreat.Rw
open Go Go.Fw Go.Js
theorem ZH{h:Zf}{cells:List Value}{t:TypeId}{K:Nat->Zf->Prop}(a:∀h1,h1[h.size]?=some (.cells cells.toArray t (0,0))->Ext h h1->h1.size=h.size+1->K h.size h1):newC h cells t K:=
  ZoZ (a _ Zc2 (Ext.push _ _) (by simp))
theorem Zg{b o:Nat}{K:Nat->Nat->Prop}(a:K b o):Ze (some ⟨b,o,none⟩) K:=⟨b,o,rfl,a⟩
theorem Zb{h:Zf}{b o:Nat}{l:List Value}{e:TypeId}{f:Nat×Nat}{v:Value}(a:obj h b=some (.cells l.toArray e f))(hv:l[o]?=some v):ZA o (obj h b)=some v:=by rw[a,Zip];exact hv
theorem rI{h:Zf}{b o:Nat}{k:IntKind}{n:Int}{K:Int->Prop}(a:ZA o (obj h b)=some (.int k n))(c:K n):ldI h b o k K:=by rw[ZBF a];exact c
theorem rS{h:Zf}{b o:Nat}{n:ByteArray}{K:ByteArray->Prop}(a:ZA o (obj h b)=some (.string n))(c:K n):ldS h b o K:=by rw[ZBD a];exact c
theorem rL{h:Zf}{b o:Nat}{s:Sl}{K:Sl->Prop}(a:ZA o (obj h b)=some (slV s))(c:K s):ldL h b o K:=by cases s;exact(ZBE a).mpr c
theorem Zbs{h:Zf}{b o:Nat}{v:Value}{K:Zf->Prop}{l:List Value}{e:TypeId}(a:obj h b=some (.cells l.toArray e (0,0)))(ho:o<l.length)(hv:Zr v=true)
    (c:∀h',obj h' b=some (.cells (l.set o v).toArray e (0,0))->Upd (· = b) h h'->sz h'=sz h->K h'):st h b o v K:=by
  refine⟨⟨l[o],by rw[Zj7 a];simp[ho]⟩,?_,hv,?_⟩
  ·unfold Zf.froz;rw[show h[b]?=obj h b from rfl,a];simp
  ·refine c _ ?_ (Upd.put h b o v) ZjY;have:=Znc (v:=v) (o:=o) a;rw[show obj (h.put b o v) b=(h.put b o v)[b]? from rfl,this];simp
structure Ztr(s:ByteArray)(n:Nat)(l:BL):Prop where
  drop:s.data.toList.drop n=l
  len:n+l.length=s.size
theorem Ztr.head{s:ByteArray}{n:Nat}{c:UInt8}{l:BL}(h:Ztr s n (c::l)):s[n]?=some c:=by
  have h1:s.data.toList[n]?=some c:=by
    have:=congrArg (λx=>x[0]?) h.drop;simp only[Aqg]at this;simpa using this
  have a:n<s.size:=by have:=h.len;simp at this;omega
  rw[Axp]at h1;rw[getElem?_pos s n a];rw[getElem?_pos s.data n a]at h1;exact h1
theorem Ztr.dropK{s:ByteArray}{n:Nat}{l:BL}(h:Ztr s n l){k:Nat}(a:k<=l.length):Ztr s (n+k) (l.drop k):=by refine⟨?_,by have:=h.len;simp;omega⟩;rw[<-h.drop,Axn]
abbrev At(R:Nat):Option Addr:=some ⟨R,0,none⟩
theorem UT{S T:Nat->Prop}{h0 h h':Zf}(a:Upd S h0 h)(u:Upd T h h')(hT:∀k,T k->S k\/sz h0<=k):Upd S h0 h':=
  ⟨Aqp a.size u.size,λk b hs=>(u.old k (Aqq b a.size) λt=>(hT k t).elim hs λc=>by have:sz h0=h0.size:=rfl;omega).trans (a.old k b hs)⟩
theorem UN{T:Nat->Prop}{h h1 h':Zf}(e:Ext h h1)(u:Upd T h1 h'):Upd T h h':=UT (e.upd T) u λ_ t=>.inl t
theorem Zqt{a b:Int}{A B:Prop}(h1:a≠b->A)(c:a=b->B):Zl (a !=b) A B:=⟨λe=>h1 (by simpa using e),λe=>c (by simpa using e)⟩
theorem Zhv{a b:Int}{A B:Prop}(h1:a=b->A)(c:a≠b->B):Zl (a==b) A B:=⟨λe=>h1 (by simpa using e),λe=>c (by simpa using e)⟩
end Go.Proofs.YtonbfpnngkemiaaGreat.Rw
namespace Go.Js
open Go Go.Fw Go.Js
end Go.Js
namespace Go.Proofs.YtonbfpnngkemiaaGreat.Rw
open Go Go.Fw Go.Js
theorem Zjl(a b:ByteArray):Yr a b=decide (a=b):=by
  unfold Yr;rw[ByteArray.toList_eq,ByteArray.toList_eq]
  by_cases h:a=b
  ·rw[h];simp
  ·rw[decide_eq_false h,beq_eq_false_iff_ne];intro e;exact h (ByteArray.ext (Array.toList_inj.1 e))
theorem ZDw(l:BL):(Zx l).size=l.length:=rfl
abbrev sV(t:BL):Value:=.string (Zx t)
def inS(S:Nat->Prop)(x:Sl):Prop:=x.len≠0->∀b,x.blk=some b->S b
theorem inS.mono{S a:Nat->Prop}{x:Sl}(h:inS S x)(hs:∀b,S b->a b):inS a x:=λhl b c=>hs b (h hl b c)
theorem Zhn{h h':Zf}{S:Nat->Prop}{x:Sl}{n:Nat}{vs:List Value}(c:Row h x n vs)(hi:inS S x)(he:∀b,S b->b<sz h->obj h' b=obj h b):Row h' x n vs:=by refine c.congr λb o d a e=>he b (hi ?_ b (by simp[Sl.blk,d])) e;intro h0;exact a (c.nil_of h0)
theorem ZGl{h:Zf}{b n size:Nat}{l:List Value}{t:TypeId}{f:Nat×Nat}{K:List Value->Prop}(c:obj h b=some (.cells l.toArray t f))(hl:l.length=n*size)(a:K l):rdS ⟨some ⟨b,0,none⟩,n,n⟩ size h K:=
  .inr ⟨b,0,l,rfl,hl,Zf2 c (λi v hi=>by simpa using hi),a⟩
theorem ZNs{h:Zf}{b o:Nat}{vs:List Value}{K:Zf->Prop}{l:List Value}{e:TypeId}(a:obj h b=some (.cells l.toArray e (0,0)))(ho:o+vs.length<=l.length)(hv:vs.all Zr=true)
    (c:∀h',obj h' b=some (.cells (ZeJ o vs l).toArray e (0,0))->Upd (· = b) h h'->sz h'=sz h->K h'):sts h b o vs K:=by
  rw[ZoJ (by rw[a,ZiV];simpa using ho) hv];exact c _ (by rw[Zk7,if_pos rfl,a,Zer]) (Upd.puts h b o vs) Zim
end Go.Proofs.YtonbfpnngkemiaaGreat.Rw
namespace Go.Js.JL
open Go Go.Fw Go.Js
end Go.Js.JL
namespace Go.Proofs.YtonbfpnngkemiaaGreat.Rw
open Go Go.Fw Go.Js
theorem ZsZ{h:Zf}{a:List BL}{x:Sl}(c:Row h x 1 (a.map sV)){i:Nat}{t:BL}(d:a[i]?=some t){n:Int}(e:n=i){K:ByteArray->Prop}(f:K (Zx t)):YI x.ptr x.len n 1 λb o=>ldS h b o K:=
  Row.idx c e (v:=sV t) (by simp[d]) λb o _ g=>⟨_,g,f⟩
theorem Zla{h:Zf}{a:List BL}{x:Sl}(b:Row h x 1 (a.map sV)):x.len=a.length:=by have:=b.len;simp at this;omega
theorem Zyj{a b:BL}:Zx a=Zx b↔a=b:=by
  constructor
  ·intro h;have:=congrArg (λb:ByteArray=>b.data.toList) h;simpa[Zx]using this
  ·rintro rfl;rfl
theorem ZgR(a b:BL):Yr (Zx a) (Zx b)=decide (a=b):=by rw[Zjl];exact decide_eq_decide.2 Zyj
theorem rV{h:Zf}{b o:Nat}{n:Value}{K:Value->Prop}(a:ZA o (obj h b)=some n)(c:K n):ldV h b o K:=by rw[ZBC a];exact c
theorem Zk0{h:Zf}{x:Sl}{n:Nat}{vs:List Value}(c:Row h x n vs)(i:0<n):inS (λb=>b<sz h) x:=by
  intro h0 b a
  rcases c.at_ with hz|⟨d,o,f,g⟩
  ·exact absurd hz h0
  ·have:d=b:=by unfold Sl.blk at a;rw[f]at a;simpa using a
   subst this;refine Zt9 g λe=>?_;have hl:=c.len;rw[e]at hl;have:x.len*n≠0:=Nat.mul_ne_zero h0 (by omega);exact this (by rw[<-hl];rfl)
theorem ZAQ{α:Type}{l:List α}{i:Nat}{x:α}(h:l[i]?=some x):i<l.length:=(Ayf.1 h).1
theorem Zl7{α:Type}{f:α->List Value}{n:Nat}(b:∀a,(f a).length=n):∀l:List α,(l.flatMap f).length=l.length*n
  |[]=>by simp
  |a::l=>by rw[Ayc,Awe,b,Zl7 b l,Aqj,Aww];omega
theorem ZnP{α:Type}{f:α->List Value}{n:Nat}(b:∀a,(f a).length=n):∀(l:List α) (i m:Nat) (a:α),l[i]?=some a->m<n->(l.flatMap f)[i*n+m]?=(f a)[m]?
  |[],i,m,a,h,_=>by simp at h
  | x::l,0,m,a,h,hm=>by
    simp at h;subst h;rw[Ayc,Aqs,Awb,Awu (by rw[b];exact hm)]
  | x::l,i+1,m,a,h,hm=>by
    rw[Ayc,Awv (by rw[b,Aww];omega),b,show(i+1)*n+m- n=i*n+m by rw[Aww];omega];exact ZnP b l i m a (by simpa using h) hm
end Go.Proofs.YtonbfpnngkemiaaGreat.Rw
namespace Go.Js
open Go Go.Fw Go.Js
def Zle(t:BL):List BL->Nat->Option Nat
  |[],_=>none
  |w::ws,i=>if w=t then some i else Zle t ws (i+1)
end Go.Js
namespace Go.Proofs.YtonbfpnngkemiaaGreat.Rw
open Go Go.Fw Go.Js
theorem ZGR(t:BL):∀(ws:List BL) (i j:Nat),Zle t (ws.drop j) (i+j)=match ws.drop j with
    |[]=>none
    |w::_=>if w=t then some (i+j)else Zle t (ws.drop (j+1)) (i+(j+1)):=by
  intro ws i j
  cases hd:ws.drop j with
  |nil=>rfl
  | cons w r=>
    have e:ws.drop (j+1)=r:=by rw[<-Axn,hd];rfl
    simp only[Zle,e];rfl
theorem ZAP{h:Zf}{ws:List BL}{x:Sl}(a:Row h x 1 (ws.map sV)){t:BL}{K:Int->HP}(b:K (match Zle t ws 0 with
    |some i=>(i:Int)
    |none=> -1) h):Xb x (Zx t) K h:=by
  unfold Xb;have hlen:=Zla a;have big:=a.big;have cap:=a.cap;refine Za (YK (λp h'=>h'=h/\∃i:Nat,p.1=i/\i<=ws.length/\Zle t ws 0=Zle t (ws.drop i) (0+i)) (λp _=>(ws.length- p.1).toNat) ⟨rfl,0,rfl,Aye _,rfl⟩ ?_);rintro⟨i0,u⟩ h3 ⟨rfl,i,hi,hle,d⟩;dsimp only at hi⊢;subst hi;refine Zo (λf=>?_) λg=>?_
  ·have hi:i<ws.length:=by omega
   obtain⟨w,hw⟩:∃w,ws[i]?=some w:=⟨ws[i],Axy hi⟩;refine Za (ZsZ a hw rfl ?_);have hd:ws.drop i=w::ws.drop (i+1):=by rw[Aym hi];congr 1;exact(Ayf.1 hw).2
   rw[ZgR];have c:=ZGR t ws 0 i;rw[hd]at c;simp only at c
   by_cases he:t=w
   ·rw[decide_eq_true he];refine Zn rfl (Za ?_);rw[d,hd,c,if_pos he.symm]at b;simpa using b
   ·rw[decide_eq_false he];refine Zi rfl ?_;rw[Yj (by omega) (by omega)];refine⟨⟨rfl,i+1,rfl,by omega,?_⟩,by omega⟩;rw[d,hd,c,if_neg λe=>he e.symm]
  ·refine Za ?_
   have:i=ws.length:=by omega
   subst this;rw[d,List.drop_length]at b;exact b
theorem ZxR{h:Zf}{ws:List BL}{x:Sl}(a:Row h x 1 (ws.map sV)){t:BL}{K:Int->HP}(b:K (match Zle t ws 0 with
    |some i=>(i:Int)
    |none=> -1) h):XY x (Zx t) K h:=ZAP a b
theorem ZrA{t:BL}:∀{ws:List BL} {i:Nat},(Zle t ws i).isSome=true↔t∈ws
  |[],i=>by simp[Zle]
  | w::ws,i=>by
    simp only[Zle];split
    ·rename_i h;simp[h]
    ·rename_i h;rw[ZrA,Awr];exact⟨.inr,λa=>a.resolve_left λe=>h e.symm⟩
theorem ZnU{h:Zf}{ws:List BL}{x:Sl}(b:Row h x 1 (ws.map sV)){t:BL}{K:Bool->HP}(c:K (decide (t∈ws)) h):Yy x (Zx t) K h:=by
  unfold Yy Xv;refine ZxR b ?_
  show Zq (decide ((match Zle t ws 0 with
    |some i=>(i:Int)
    |none=> -1)>=0)) λt2=>K t2 h
  have:decide ((match Zle t ws 0 with
    |some i=>(i:Int)
    |none=> -1)>=0)=decide (t∈ws):=by
    have hm:=ZrA (t:=t) (ws:=ws) (i:=0)
    cases a:Zle t ws 0 with
    |none=>rw[a]at hm;simp only[Awf,Aqc,false_iff]at hm;simp[hm]
    |some i=>rw[a]at hm;simp only[Option.isSome_some,true_iff]at hm;simp[hm]
  rw[this];exact c
def Zhk(l:List (BL×Int)):List Value:=l.flatMap λp=>[sV p.1,iv p.2]
def Box(h:Zf)(c:Nat)(v:Value):Prop:=∃T,obj h c=some (.cells [v].toArray T (0,0))
theorem Box.ext{h h':Zf}{c:Nat}{v:Value}(b:Box h c v)(u:Ext h h'):Box h' c v:=let⟨T,b⟩:=b;⟨T,Zj b u⟩
theorem Box.lt{h:Zf}{c:Nat}{v:Value}(b:Box h c v):c<sz h:=let⟨_,b⟩:=b;Zp b
theorem Box.upd{U:Nat->Prop}{h h':Zf}{c:Nat}{v:Value}(b:Box h c v)(u:Upd U h h')(a:¬U c):Box h' c v:=let⟨T,b⟩:=b;⟨T,YW b u a⟩
end Go.Proofs.YtonbfpnngkemiaaGreat.Rw
namespace Go.Js
open Go Go.Fw Go.Js
structure FlowP where
  (res org:BL) (thr:Bool) (cnt:Int) (strat:Nat) (ref:BL) (shape:Nat) (warm queue:Int) (clu:Bool) (id:Int) (fb:Bool)
deriving DecidableEq
structure YN where
  (res:BL) (grade:Nat) (cnt slow least window recover:Int)
deriving DecidableEq
structure Zen where
  (res:BL) (index cnt secs:Int) (items:List (BL×Int))
deriving DecidableEq
structure Zav where
  (qps threads rt load cpu:Int)
deriving DecidableEq
structure Zbt where
  (res:BL) (white:Bool) (origins:List BL)
deriving DecidableEq
structure RulesP where
  (fl:List FlowP) (br:List YN) (ho:List Zen) (sy:List Zav) (li:List Zbt)
deriving DecidableEq
def ZDR(c:UInt8):Bool:=decide (33<=c.toNat)&&decide (c.toNat<=126)
def ZbN(l:BL):Bool:=l.all ZDR&&(decide (1<=l.length)&&decide (l.length<=64))
def inJ(n lo hi:Int):Bool:=decide (lo<=n)&&decide (n<=hi)
def onlyIf(asked:Bool)(n lo hi:Int):Bool:=if asked then inJ n lo hi else decide (n=0)
def Zh2:List BL->Bool
  |[]=>false
  |a::l=>decide (a∈l)||Zh2 l
def FlowP.names(f:FlowP):Bool:=ZbN f.res&&ZbN f.org&&(if f.strat=1\/f.strat=2 then ZbN f.ref else true)
def FlowP.good(f:FlowP):Bool:=
  inJ f.cnt (if f.shape=0 then 0 else 1) 1099511627776&&(decide (f.strat<=2)&&decide (f.shape<=3))&&(!decide (f.strat=0)||decide (f.ref=[]))&&(!f.thr||decide (f.shape=0) && !f.clu) &&
  (onlyIf (decide (f.shape=1)||decide (f.shape=3)) f.warm 1 3600&&onlyIf (decide (f.shape=2)||decide (f.shape=3)) f.queue 0 3600000000) &&
  (!f.clu||decide (f.strat=0)&&decide (f.shape=0))&&(onlyIf f.clu f.id 1 1099511627776&&(f.clu|| !f.fb))
def FlowP.err(f:FlowP):Nat:=if f.names then(if f.good then 0 else 30)else 10
def YN.good(b:YN):Bool:=
  (decide (b.grade<=2)&&inJ b.cnt 0 (if b.grade=2 then 1099511627776 else 1000))&&onlyIf (decide (b.grade=0)) b.slow 1 3600000000 &&
  (inJ b.least 1 1099511627776&&inJ b.window 1000000 120000000)&&inJ b.recover 1000000 3600000000
def YN.err(b:YN):Nat:=if ZbN b.res then(if b.good then 0 else 31)else 10
def Zen.good(b:Zen):Bool:=
  (inJ b.index 0 7&&inJ b.cnt 0 1099511627776)&&(inJ b.secs 1 60&&decide (b.items.length<=32) && !Zh2 (b.items.map (·.1)))&&b.items.all λp=>decide (p.1.length<=64)&&inJ p.2 0 1099511627776
def Zen.err(b:Zen):Nat:=if ZbN b.res then(if b.good then 0 else 32)else 10
def Zav.err(b:Zav):Nat:=if inJ b.qps (-1) 1099511627776&&inJ b.threads (-1) 1099511627776&&inJ b.rt (-1) 1099511627776&&inJ b.load (-1) 1099511627776&&inJ b.cpu (-1) 1099511627776 then 0 else 33
def Zbt.err(b:Zbt):Nat:=if ZbN b.res&&b.origins.all ZbN then(if decide (1<=b.origins.length)&&decide (b.origins.length<=32) && !Zh2 b.origins then 0 else 34)else 10
def Za0{α:Type}(f:α->Nat):List α->Nat->Option (Nat×Nat)
  |[],_=>none
  |a::l,i=>if f a=0 then Za0 f l (i+1)else some (i,f a)
def RulesP.whereE(r:RulesP):Nat×Nat×Nat:=
  if 256<r.fl.length then(1,0,5)else if 256<r.br.length then(2,0,5)else if 256<r.ho.length then(3,0,5)else if 256<r.sy.length then(4,0,5)else if 256<r.li.length then(5,0,5)else
  match Za0 FlowP.err r.fl 0 with
  |some (i,e)=>(1,i,e)
  | none=>match Za0 YN.err r.br 0 with
    |some (i,e)=>(2,i,e)
    | none=>match Za0 Zen.err r.ho 0 with
      |some (i,e)=>(3,i,e)
      | none=>match Za0 Zav.err r.sy 0 with
        |some (i,e)=>(4,i,e)
        | none=>match Za0 Zbt.err r.li 0 with
          |some (i,e)=>(5,i,e)
          |none=>(0,0,0)
end Go.Js
namespace Go.Proofs.YtonbfpnngkemiaaGreat.Rw
open Go Go.Fw Go.Js
def i8(n:Nat):Value:=.int .u8 (n:Int)
def i64(n:Int):Value:=iv n
def Ze9(f:FlowP):List Value:=[sV f.res,sV f.org,.bool f.thr,i64 f.cnt,i8 f.strat,sV f.ref,i8 f.shape,i64 f.warm,i64 f.queue,.bool f.clu,i64 f.id,.bool f.fb]
def Zdh(f:YN):List Value:=[sV f.res,i8 f.grade,i64 f.cnt,i64 f.slow,i64 f.least,i64 f.window,i64 f.recover]
def ZgQ(f:Zav):List Value:=[i64 f.qps,i64 f.threads,i64 f.rt,i64 f.load,i64 f.cpu]
def Zlf(p:Sl×Zen):List Value:=[sV p.2.res,i64 p.2.index,i64 p.2.cnt,i64 p.2.secs,slV p.1]
def Zix(p:Sl×Zbt):List Value:=[sV p.2.res,.bool p.2.white,slV p.1]
def ZN1(h:Zf)(S:Nat->Prop)(p:Sl×Zen):Prop:=Row h p.1 2 (Zhk p.2.items)/\inS S p.1
def ZyF(h:Zf)(S:Nat->Prop)(p:Sl×Zbt):Prop:=Row h p.1 1 (p.2.origins.map sV)/\inS S p.1
abbrev VTR:=Sl×Sl×Sl×Sl×Sl×Unit
structure YY(h:Zf)(S:Nat->Prop)(z:VTR)(r:RulesP):Prop where
  fl:Row h z.1 12 (r.fl.flatMap Ze9)/\inS S z.1
  br:Row h z.2.1 7 (r.br.flatMap Zdh)/\inS S z.2.1
  ho:∃hp:List (Sl×Zen),hp.map (·.2)=r.ho/\(Row h z.2.2.1 5 (hp.flatMap Zlf)/\inS S z.2.2.1)/\∀p,p∈hp->ZN1 h S p
  sy:Row h z.2.2.2.1 5 (r.sy.flatMap ZgQ)/\inS S z.2.2.2.1
  li:∃lp:List (Sl×Zbt),lp.map (·.2)=r.li/\(Row h z.2.2.2.2.1 3 (lp.flatMap Zix)/\inS S z.2.2.2.2.1)/\∀p,p∈lp->ZyF h S p
theorem ZkC{h h':Zf}{S:Nat->Prop}{x:Sl}{n:Nat}{vs:List Value}(r:Row h x n vs/\inS S x)(he:∀b,S b->b<sz h->obj h' b=obj h b):Row h' x n vs/\inS S x:=⟨Zhn r.1 r.2 he,r.2⟩
theorem YY.keep{h h':Zf}{S:Nat->Prop}{z:VTR}{r:RulesP}(a:YY h S z r)(he:∀b,S b->b<sz h->obj h' b=obj h b):YY h' S z r:=by obtain⟨c,h1,d,h3⟩:=a.ho;obtain⟨e,f,g,i⟩:=a.li;exact⟨ZkC a.fl he,ZkC a.br he,⟨c,h1,ZkC d he,λp c=>ZkC (h3 p c) he⟩,ZkC a.sy he,⟨e,f,ZkC g he,λp c=>ZkC (i p c) he⟩⟩
theorem YY.ext{h h':Zf}{S:Nat->Prop}{z:VTR}{r:RulesP}(a:YY h S z r)(u:Ext h h'):YY h' S z r:=a.keep λb _ hl=>ZB u hl
theorem YY.mono{h:Zf}{S d:Nat->Prop}{z:VTR}{r:RulesP}(a:YY h S z r)(hs:∀b,b<sz h->S b->d b):YY h d z r:=by obtain⟨c,h1,f,h3⟩:=a.ho;obtain⟨g,i,j,k⟩:=a.li;have m:∀{x:Sl} {n:Nat} {vs:List Value},0<n->Row h x n vs/\inS S x->Row h x n vs/\inS d x:=λ{x n vs} l r=>⟨r.1,λh0 b e=>hs b (Zk0 r.1 l h0 b e) (r.2 h0 b e)⟩;exact⟨m (by decide) a.fl,m (by decide) a.br,⟨c,h1,m (by decide) f,λp c=>m (by decide) (h3 p c)⟩,m (by decide) a.sy,⟨g,i,m (by decide) j,λp c=>m (by decide) (k p c)⟩⟩
theorem rBl{h:Zf}{b o:Nat}{n:Bool}{K:Bool->Prop}(a:ZA o (obj h b)=some (.bool n))(c:K n):ldB h b o K:=by unfold ldB;exact⟨n,by rw[Yq];exact a,c⟩
def ZcW(f:FlowP):ByteArray×ByteArray×Bool×Int×Int×ByteArray×Int×Int×Int×Bool×Int×Bool×Unit:=(Zx f.res,Zx f.org,f.thr,f.cnt,(f.strat:Int),Zx f.ref,(f.shape:Int),f.warm,f.queue,f.clu,f.id,f.fb,())
def ZBO(f:YN):ByteArray×Int×Int×Int×Int×Int×Int×Unit:=(Zx f.res,(f.grade:Int),f.cnt,f.slow,f.least,f.window,f.recover,())
def ZE8(x:Sl)(f:Zen):ByteArray×Int×Int×Int×Sl×Unit:=(Zx f.res,f.index,f.cnt,f.secs,x,())
def ZpX(f:Zav):Int×Int×Int×Int×Int×Unit:=(f.qps,f.threads,f.rt,f.load,f.cpu,())
def ZGB(x:Sl)(f:Zbt):ByteArray×Bool×Sl×Unit:=(Zx f.res,f.white,x,())
theorem ZtV{h:Zf}{base n bytes:Nat}{out:Sl}{vs cells zs:List Value}{T T2:TypeId}{K:Sl->Zf->Prop}(own:Own h base out n vs)(j:cells.length=n)(h1:cells.all Zr=true)(hz:zs.length=n)(d:(out.len+1)*bytes<=140737488355328)(hl:out.len+1<=140737488355328)(e:base<=sz h)
    (g:∀s' h',Own h' base s' n (vs++cells)->Upd (λk=>out.blk=some k) h h'->(s'.blk=out.blk\/∃b,s'.blk=some b/\sz h<=b)->K s' h'):
    newC h cells T2 λb a=>rdS ⟨some ⟨b,0,none⟩,1,1⟩ n a λnew=>app T n bytes zs out 1 new a K:=by
  refine ZH λa i f l=>ZGl i (by omega) ?_;have s2:sz a=a.size:=rfl;have s1:sz h=h.size:=rfl;refine(own.congr λb _ d _=>ZB f d).app (by omega) h1 hz d hl (show base<=a.size by omega) λs' h' o _ u c=>g s' h' o (UN f u) ?_
  rcases c with c|c
  ·exact .inl c
  ·exact .inr ⟨_,c,by omega⟩
end Go.Proofs.YtonbfpnngkemiaaGreat.Rw
namespace Go.Js
open Go Go.Fw Go.Js
theorem Zrm{l:List BL}:Zh2 l=false↔l.Nodup:=by
  induction l with
  |nil=>simp[Zh2]
  |cons a l b=>simp[Zh2,Ayn,b]
end Go.Js
namespace Go.Proofs.YtonbfpnngkemiaaGreat.Rw
open Go Go.Fw Go.Js
section
variable{h:Zf}
theorem YR{n lo hi:Int}{K:Bool->HP}(a:K (decide (lo<=n)&&decide (n<=hi)) h):Ys n lo hi K h:=by
  unfold Ys ZfG;refine Zo (λh1=>Zd ?_) λh1=>?_
  ·rw[decide_eq_true (p:=lo<=n) (by omega),Aqa]at a;exact a
  ·rw[decide_eq_false (p:=lo<=n) (by omega),Aqb]at a;exact a
theorem ZAt{l:BL}{k:Nat}(a:k<=l.length):Ztr (Zx l) k (l.drop k):=by have:Ztr (Zx l) 0 l:=⟨rfl,by rw[ZDw];omega⟩;have:=this.dropK a;rwa[Awb]at this
theorem Znz{l:BL}(hl:l.length<9223372036854775807){K:Bool->HP}(b:K (ZbN l) h):Zag (Zx l) K h:=by
  unfold Zag ZfI;have hs:(Zx l).size=l.length:=rfl;refine YK (λp h'=>h'=h/\∃i:Nat,p.1=i/\i<=l.length/\(l.take i).all ZDR=true) (λp _=>l.length- p.1.toNat) ⟨rfl,0,rfl,Aye _,rfl⟩ ?_;rintro⟨o,u⟩ q ⟨rfl,i,hi,g,c⟩;dsimp only at hi⊢;subst hi;refine Zo (λj=>Za ?_) λm=>?_
  ·have a:i<l.length:=by omega
   have n:Ztr (Zx l) i (l[i]::l.drop (i+1)):=by
     have:=ZAt (l:=l) (k:=i) (by omega);rwa[Aym a]at this
   refine⟨l[i],by omega,by rw[Aqu];exact n.head,YR ?_⟩;have r:=l[i].toNat_lt;rw[Yj (by omega) (by omega)]
   have e:(decide ((33:Int)<=(l[i].toNat:Int))&&decide ((l[i].toNat:Int)<=126))=ZDR l[i]:=by
     unfold ZDR;congr 1<;>(rw[decide_eq_decide];omega)
   rw[e]
   cases d:ZDR l[i]with
   | false =>
     refine Zn rfl ?_
     have:ZbN l=false:=by
       unfold ZbN
       have:l.all ZDR=false:=by
         cases f:l.all ZDR with
         |false=>rfl
         |true=>rw[Axb]at f;have:=f _ (Ayx a);rw[d]at this;cases this
       rw[this];rfl
     rw[this]at b;exact b
   | true=>
     refine Zi rfl ?_;rw[Yj (by omega) (by omega)];refine⟨⟨rfl,i+1,rfl,by omega,?_⟩,by omega⟩;rw[Ayk,Axy a,Ayp,c];simp[d]
  ·rw [Awd (by omega)]at c;refine YR (Zd ?_);unfold ZbN at b;rw[c,Aqa]at b
   rw [show(decide ((1:Int)<=((Zx l).size:Int))&&decide (((Zx l).size:Int)<=64))=(decide (1<=l.length)&&decide (l.length<=64)) by
     rw[hs];congr 1<;>(rw[decide_eq_decide];omega)]
   exact b
theorem ZnA{nms:List BL}{nm:Sl}(a:Row h nm 1 (nms.map sV))(hlen:∀n,n∈nms->n.length<9223372036854775807){K:Int->HP}(f:∀n:Int,(0<=n↔nms.all ZbN=false)->K n h):ZL nm K h:=by
  unfold ZL Ym;have k:=Zla a;have big:=a.big;have cap:=a.cap;refine Za (YK (λp h'=>h'=h/\∃i:Nat,p.1=i/\i<=nms.length/\(nms.take i).all ZbN=true) (λp _=>(nms.length- p.1).toNat) ⟨rfl,0,rfl,Aye _,rfl⟩ ?_);rintro⟨q,u⟩ r ⟨rfl,i,hi,l,b⟩;dsimp only at hi⊢;subst hi;refine Zo (λm=>Za ?_) λo=>Za ?_
  ·have c:i<nms.length:=by omega
   obtain⟨t,d⟩:∃t,nms[i]?=some t:=⟨nms[i],Axy c⟩;have hm:=Axo d;refine ZsZ a d rfl ?_;unfold ZcF ZcU;refine Znz (hlen t hm) (Zd ?_)
   cases g:ZbN t with
   | false=>
     refine Zn rfl (Za (f _ ⟨λ_=>?_,λ_=>by omega⟩))
     cases j:nms.all ZbN with
     |false=>rfl
     |true=>rw[Axb]at j;have:=j _ hm;rw[g]at this;cases this
   | true=>
     refine Zi rfl ?_;rw[Yj (by omega) (by omega)];refine⟨⟨rfl,i+1,rfl,by omega,?_⟩,by omega⟩;rw[Ayk,d,Ayp,b];simp[g]
  ·rw[Awd (by omega)]at b;exact f _ ⟨λh0=>by omega,λe=>by rw[b]at e;cases e⟩
theorem Zvt{res:BL}(hl:res.length<9223372036854775807){nms:List BL}{nm:Sl}(e:Row h nm 1 (nms.map sV))(hlen:∀n,n∈nms->n.length<9223372036854775807){K:Bool->HP}(b:∀h',Ext h h'->K (ZbN res&&nms.all ZbN) h'):Zaq (Zx res,nm,()) K h:=by
  unfold Zaq Zeb;refine ZH λh1 c1 c f=>rS (Zb c1 rfl) (Znz hl ?_)
  cases a:ZbN res with
  |false=>rw[a]at b;exact Zi rfl (b h1 c)
  | true=>
    rw[a]at b;refine Zn rfl (rL (s:=nm) (Zb c1 rfl) ?_);unfold ZZ Z1;refine ZnA (e.ext c) hlen λn a=>Zd (Zd ?_);have:=b h1 c;rw[Aqa]at this
    cases d:nms.all ZbN with
    | true=>
      rw[d]at this a;rw[show decide (n>=0)=false by simp only[decide_eq_false_iff_not];intro h;have:=a.1 h;cases this];exact this
    | false=>
      rw[d]at this a;rw[show decide (n>=0)=true by simp only[decide_eq_true_eq];exact a.2 rfl];exact this
theorem Zk5{b:Bool}{n lo hi:Int}{K:Bool->HP}(a:K (onlyIf b n lo hi) h):Zeh b n lo hi K h:=by
  unfold Zeh ZjD
  cases b with
  | false=>
    have:onlyIf false n lo hi=(n==0):=by unfold onlyIf;rw[if_neg Bool.false_ne_true];rfl
    rw[this]at a;exact Zi rfl (Zn rfl (Zd a))
  | true=>
    have:onlyIf true n lo hi=inJ n lo hi:=if_pos rfl;rw[this]at a;refine Zn rfl (YR ?_);show Zl (inJ n lo hi) _ _
    cases c:inJ n lo hi with
    |true=>rw[c]at a;exact Zn rfl a
    |false=>rw[c]at a;exact Zi rfl (Zi rfl a)
theorem ZoF{ws:List BL}{x:Sl}(c:Row h x 1 (ws.map sV)){K:Bool->HP}(f:K (Zh2 ws) h):Zeu x K h:=by
  unfold Zeu ZiF;have q:=Zla c;have big:=c.big;have cap:=c.cap;refine YK (λp h'=>h'=h/\∃i:Nat,p.1=i/\i<=ws.length/\(ws.take i).Nodup) (λp _=>(ws.length- p.1).toNat) ⟨rfl,0,rfl,Aye _,by simp⟩ ?_;rintro⟨y,u⟩ g ⟨rfl,i,hi,r,j⟩;dsimp only at hi⊢;subst hi;refine Zo (λs=>?_) λv=>?_
  ·have k:i<ws.length:=by omega
   obtain⟨t,o⟩:∃t,ws[i]?=some t:=⟨ws[i],Axy k⟩;refine ZsZ c o rfl (Za (c.slc (a:=0) (b:=i) (m:=x.cap) rfl rfl rfl (by omega) (by omega) (by omega) (Aqo _) λs' l _ _ _=>?_));have n:Row g s' 1 ((ws.take i).map sV):=by simpa[List.map_take]using l
   refine ZnU n ?_;have d:ws.take (i+1)=ws.take i++[t]:=by rw[Ayk,o];rfl
   by_cases hm:t∈ws.take i
   ·rw [decide_eq_true hm]
    have:Zh2 ws=true:=by
      cases w:Zh2 ws with
      |true=>rfl
      | false=>
        have nd:=(List.take_sublist (i+1) ws).nodup (Zrm.1 w);rw[d,List.nodup_append]at nd;exact absurd rfl (nd.2.2 t hm t (by simp))
    rw[this]at f;exact Zn rfl f
   ·rw[decide_eq_false hm];refine Zi rfl ?_;rw[Yj (by omega) (by omega)];refine⟨⟨rfl,i+1,rfl,by omega,?_⟩,by omega⟩;rw[d,List.nodup_append];exact⟨j,by simp,λa h1 b g e=>hm (by simp at g;rw[<-g,<-e];exact h1)⟩
  ·rw[Awd (by omega)]at j;rw[Zrm.2 j]at f;exact f
def Zsl(cl:Value)(K:Bool->HP)(h:Zf):Prop:=
  (exG cl (λc:Option Addr×Option Addr×Unit=>.func (.func 261) #[] ⟨[.pointer c.1,.pointer c.2.1]⟩) λc=>ZdJ c.1 c.2.1 K h)\/(
  (exG cl (λc:Option Addr×Unit=>.func (.func 262) #[] ⟨[.pointer c.1]⟩) λc=>ZdI c.1 K h)\/(
  (exG cl (λc:Option Addr×Unit=>.func (.func 263) #[] ⟨[.pointer c.1]⟩) λc=>ZdH c.1 K h)\/(
  (exG cl (λc:Option Addr×Unit=>.func (.func 264) #[] ⟨[.pointer c.1]⟩) λc=>ZdG c.1 K h)\/(
  (exG cl (λc:Option Addr×Option Addr×Option Addr×Unit=>.func (.func 265) #[] ⟨[.pointer c.1,.pointer c.2.1,.pointer c.2.2.1]⟩) λc=>ZdF c.1 c.2.1 c.2.2.1 K h)\/(
  (exG cl (λc:Option Addr×Unit=>.func (.func 266) #[] ⟨[.pointer c.1]⟩) λc=>ZdE c.1 K h)\/(
  (exG cl (λc:Option Addr×Unit=>.func (.func 267) #[] ⟨[.pointer c.1]⟩) λc=>ZdD c.1 K h)\/(
  (exG cl (λc:Option Addr×Option Addr×Unit=>.func (.func 205) #[] ⟨[.pointer c.1,.pointer c.2.1]⟩) λc=>ZcJ c.1 c.2.1 K h)\/(
  (exG cl (λc:Option Addr×Unit=>.func (.func 206) #[] ⟨[.pointer c.1]⟩) λc=>ZcI c.1 K h)\/(
  (exG cl (λc:Option Addr×Unit=>.func (.func 208) #[] ⟨[.pointer c.1]⟩) λc=>ZcH c.1 K h)\/(
  (exG cl (λc:Option Addr×Unit=>.func (.func 209) #[] ⟨[.pointer c.1]⟩) λc=>ZcG c.1 K h)\/(
  (exG cl (λc:Option Addr×Unit=>.func (.func 212) #[] ⟨[.pointer c.1]⟩) λc=>Zey c.1 K h)\/(
  (exG cl (λc:Option Addr×Option Addr×Unit=>.func (.func 213) #[] ⟨[.pointer c.1,.pointer c.2.1]⟩) λc=>Zex c.1 c.2.1 K h)\/(
  (exG cl (λc:Option Addr×Unit=>.func (.func 215) #[] ⟨[.pointer c.1]⟩) λc=>Zew c.1 K h)\/(
  (exG cl (λc:Option Addr×Unit=>.func (.func 238) #[] ⟨[.pointer c.1]⟩) λc=>ZdC c.1 K h)\/False))))))))))))))
theorem ZF5{vs:List Value}{x:Sl}(a:Row h x 1 vs){i:Nat}{v:Value}(hv:vs[i]?=some v){n:Int}(c:n=i){K:Value->Prop}(d:K v):YI x.ptr x.len n 1 λb o=>ldV h b o K:=
  Row.idx a c hv λb o _ e=>⟨_,e,d⟩
theorem Zqi{res:BL}(hl:res.length<9223372036854775807){nms:List BL}{nm:Sl}(z:Row h nm 1 (nms.map sV))(hlen:∀n,n∈nms->n.length<9223372036854775807){e:Nat}{r:Int}(he:r=e){all:Sl}{cls:List (Value×Bool)}(g:Row h all 1 (cls.map (·.1)))
    (A:∀p,p∈cls->∀{h':Zf} {K:Bool->HP},Ext h h'->(∀h'',Ext h' h''->K p.2 h'')->Zsl p.1 K h') {K:Int->HP}
    (k:∀h' (n:Nat),n=(if ZbN res&&nms.all ZbN then(if cls.all (·.2)then 0 else e)else 10)->Ext h h'->K n h'):Zar (Zx res,nm,r,()) all K h:=by
  subst he;unfold Zar Zg4;have l:all.len=cls.length:=by have:=g.len;simp at this;omega
  have big:=g.big;have cap:=g.cap;refine ZH λh1 c1 t H=>Za (rS (Zb c1 rfl) (rL (s:=nm) (Zb c1 rfl) (Zvt hl (z.ext t) hlen λw x=>?_)));have B:=Zj c1 x;have c:=t.trans x
  cases m:(ZbN res&&nms.all ZbN)with
  |false=>exact Zn rfl (Za (k w 10 (by rw[m];rfl) c))
  | true =>
    refine Zi rfl (YK (λp h'=>Ext w h'/\∃i:Nat,p.1=i/\i<=cls.length/\(cls.take i).all (·.2)=true) (λp _=>(cls.length- p.1).toNat) ⟨Ext.refl _,0,rfl,Aye _,rfl⟩ ?_);rintro⟨I,u⟩ h3 ⟨a,i,hi,C,o⟩;dsimp only at hi⊢;subst hi;refine Zo (λD=>?_) λE=>Za ?_
    ·have q:i<cls.length:=by omega
     obtain⟨p,j⟩:∃p,cls[i]?=some p:=⟨cls[i],Axy q⟩;have d:=c.trans a;refine ZF5 (g.ext d) (v:=p.1) (by rw[Awy,j];rfl) rfl ?_;refine A p (Axo j) (h':=h3) (K:=_) d λF f=>?_;have G:=Zj B (a.trans f)
     cases y:p.2 with
     | false=>
       refine Zn rfl (rI (Zb G rfl) (Za (k F e ?_ (d.trans f))));rw[m,if_pos rfl,if_neg];intro b;rw[Axb]at b;have:=b p (Axo j);rw[y]at this;cases this
     | true=>
       refine Zi rfl ?_;rw[Yj (by omega) (by omega)];refine⟨⟨a.trans f,i+1,rfl,by omega,?_⟩,by omega⟩;rw[Ayk,j,Ayp,o];simp[y]
    ·rw[Awd (by omega)]at o;exact k h3 0 (by rw[m,if_pos rfl,if_pos o]) (c.trans a)
theorem ZvH{K:Bool->HP}{b r:Bool}(a:K b h)(e:r=b):K r h:=e▸a
theorem ZAG(n m:Nat):((n:Int)==(m:Int))=decide (n=m):=by rw[Bool.eq_iff_iff,beq_iff_eq,decide_eq_true_eq];omega
theorem ZNL{f:FlowP}{T:TypeId}{b c:Nat}{lo:Int}(cb:obj h b=some (.cells (Ze9 f).toArray T (0,0)))(a:Box h c (i64 lo)){K:Bool->HP}(d:K (inJ f.cnt lo 1099511627776) h):Zsl (.func (.func 261) #[] #[.pointer (At b),.pointer (At c)]) K h:=by obtain⟨T2,a⟩:=a;refine .inl ⟨(At b,At c,()),rfl,?_⟩;unfold ZdJ ZhS;exact Zg (rI (Zb cb rfl) (Zg (rI (Zb a rfl) (YR (Zd d)))))
theorem ZNK{f:FlowP}{T:TypeId}{b:Nat}(cb:obj h b=some (.cells (Ze9 f).toArray T (0,0))){K:Bool->HP}(a:K (decide (f.strat<=2)&&decide (f.shape<=3)) h):Zsl (.func (.func 262) #[] #[.pointer (At b)]) K h:=by
  refine .inr (.inl ⟨(At b,()),rfl,?_⟩);unfold ZdI ZhR;refine Zg (rI (Zb cb rfl) (Zo (λh1=>Zg (rI (Zb cb rfl) (Zd (ZvH a ?_)))) λh1=>ZvH a ?_))
  ·rw[decide_eq_true (p:=f.strat<=2) (by omega),Aqa,decide_eq_decide];omega
  ·rw[decide_eq_false (p:=f.strat<=2) (by omega),Aqb]
theorem ZNJ{f:FlowP}{T:TypeId}{b:Nat}(cb:obj h b=some (.cells (Ze9 f).toArray T (0,0))){K:Bool->HP}(a:K (!decide (f.strat=0)||decide (f.ref=[])) h):Zsl (.func (.func 263) #[] #[.pointer (At b)]) K h:=by
  refine .inr (.inr (.inl ⟨(At b,()),rfl,?_⟩));unfold ZdH ZhQ;refine Zg (rI (Zb cb rfl) (Zqt (λh1=>ZvH a ?_) λh1=>Zg (rS (Zb cb rfl) (Zd (ZvH a ?_)))))
  ·rw[decide_eq_false (p:=f.strat=0) (by omega)];rfl
  ·rw[decide_eq_true (p:=f.strat=0) (by omega)];exact ZgR f.ref []
theorem ZNI{f:FlowP}{T:TypeId}{b:Nat}(cb:obj h b=some (.cells (Ze9 f).toArray T (0,0))){K:Bool->HP}(a:K (!f.thr||decide (f.shape=0) && !f.clu) h):Zsl (.func (.func 264) #[] #[.pointer (At b)]) K h:=by
  refine .inr (.inr (.inr (.inl ⟨(At b,()),rfl,?_⟩)));unfold ZdG ZhP;refine Zg (rBl (Zb cb rfl) ?_)
  cases c:f.thr with
  |false=>rw[c]at a;exact Zn rfl a
  | true=>
    rw[c]at a;refine Zi rfl (Zg (rI (Zb cb rfl) (Zhv (λh1=>Zg (rBl (Zb cb rfl) (Zd (ZvH a ?_)))) λh1=>ZvH a ?_)))
    ·rw[decide_eq_true (p:=f.shape=0) (by omega)];simp
    ·rw[decide_eq_false (p:=f.shape=0) (by omega)];simp
theorem ZNH{f:FlowP}{T:TypeId}{b w p:Nat}{c e:Bool}(cb:obj h b=some (.cells (Ze9 f).toArray T (0,0)))(d:Box h w (.bool c))(cp:Box h p (.bool e)){K:Bool->HP}(a:K (onlyIf c f.warm 1 3600&&onlyIf e f.queue 0 3600000000) h):
    Zsl (.func (.func 265) #[] #[.pointer (At w),.pointer (At b),.pointer (At p)]) K h:=by
  obtain⟨T1,d⟩:=d;obtain⟨T2,cp⟩:=cp;refine .inr (.inr (.inr (.inr (.inl ⟨(At w,At b,At p,()),rfl,?_⟩))));unfold ZdF ZhO;refine Zg (rBl (Zb d rfl) (Zg (rI (Zb cb rfl) (Zk5 ?_))))
  cases ho:onlyIf c f.warm 1 3600 with
  |false=>rw[ho]at a;exact Zi rfl a
  |true=>rw[ho]at a;exact Zn rfl (Zg (rBl (Zb cp rfl) (Zg (rI (Zb cb rfl) (Zk5 (Zd a))))))
theorem ZNG{f:FlowP}{T:TypeId}{b:Nat}(cb:obj h b=some (.cells (Ze9 f).toArray T (0,0))){K:Bool->HP}(a:K (!f.clu||decide (f.strat=0)&&decide (f.shape=0)) h):Zsl (.func (.func 266) #[] #[.pointer (At b)]) K h:=by
  refine .inr (.inr (.inr (.inr (.inr (.inl ⟨(At b,()),rfl,?_⟩)))));unfold ZdE ZhN;refine Zg (rBl (Zb cb rfl) ?_)
  cases c:f.clu with
  |false=>rw[c]at a;exact Zn rfl a
  | true=>
    rw[c]at a;refine Zi rfl (Zg (rI (Zb cb rfl) (Zhv (λh1=>Zg (rI (Zb cb rfl) (Zd (ZvH a ?_)))) λh1=>ZvH a ?_)))
    ·rw[decide_eq_true (p:=f.strat=0) (by omega)];exact ZAG f.shape 0
    ·rw[decide_eq_false (p:=f.strat=0) (by omega)];rfl
theorem ZNF{f:FlowP}{T:TypeId}{b:Nat}(cb:obj h b=some (.cells (Ze9 f).toArray T (0,0))){K:Bool->HP}(a:K (onlyIf f.clu f.id 1 1099511627776&&(f.clu|| !f.fb)) h):Zsl (.func (.func 267) #[] #[.pointer (At b)]) K h:=by
  refine .inr (.inr (.inr (.inr (.inr (.inr (.inl ⟨(At b,()),rfl,?_⟩))))));unfold ZdD ZhM;refine Zg (rBl (Zb cb rfl) (Zg (rI (Zb cb rfl) (Zk5 ?_))))
  cases ho:onlyIf f.clu f.id 1 1099511627776 with
  |false=>rw[ho]at a;exact Zi rfl a
  | true=>
    rw[ho]at a;refine Zn rfl (Zg (rBl (Zb cb rfl) ?_))
    cases c:f.clu with
    |true=>rw[c]at a;exact Zn rfl a
    |false=>rw[c]at a;exact Zi rfl (Zg (rBl (Zb cb rfl) (Zd a)))
theorem Zyl{b:Nat}{v0 v:Value}(cb:Box h b v0)(hv:Zr v=true){K:HP}(a:∀h',Box h' b v->Upd (· = b) h h'->sz h'=sz h->K h'):st h b 0 v K:=by obtain⟨T,cb⟩:=cb;exact Zbs cb (by show 0<1;omega) hv λh' c u z=>a h' ⟨T,c⟩ u z
theorem ZlS{v0 v:Value}{T:TypeId}(hv:Zr v=true){K:Nat->HP}(c:∀b h',Ext h h'->Box h' b v->sz h<=b->K b h'):newC h [v0] T λb h1=>st h1 b 0 v λa=>K b a:=by refine ZH λh1 c1 d i=>Zbs c1 (by show 0<1;omega) hv λa e f k=>?_;exact c _ a (d.updS f λj g=>by subst g;exact Aqo _) ⟨_,e⟩ (Aqo _)
def FlowP.nms(f:FlowP):List BL:=if f.strat=1\/f.strat=2 then [f.org,f.ref]else [f.org]
theorem Zx4{f:FlowP}{bs:List Bool}(h:bs=[inJ f.cnt (if f.shape=0 then 0 else 1) 1099511627776,decide (f.strat<=2)&&decide (f.shape<=3),!decide (f.strat=0)||decide (f.ref=[]),!f.thr||decide (f.shape=0) && !f.clu,
    onlyIf (decide (f.shape=1)||decide (f.shape=3)) f.warm 1 3600&&onlyIf (decide (f.shape=2)||decide (f.shape=3)) f.queue 0 3600000000,!f.clu||decide (f.strat=0)&&decide (f.shape=0),onlyIf f.clu f.id 1 1099511627776&&(f.clu|| !f.fb)]):bs.all id=f.good:=by
  subst h;simp only[Awm,Aya,id,Axz,FlowP.good];simp only[Ayy]
theorem ZvF{f:FlowP}:(ZbN f.res&&(Go.Proofs.YtonbfpnngkemiaaGreat.Rw.FlowP.nms f).all ZbN)=f.names:=by
  unfold FlowP.nms FlowP.names
  by_cases a:f.strat=1\/f.strat=2
  ·rw[if_pos a,if_pos a];simp[Ayy]
  ·rw[if_neg a,if_neg a];simp
theorem ZrG{f:FlowP}(hl:f.res.length<9223372036854775807/\f.org.length<9223372036854775807/\f.ref.length<9223372036854775807){K:Int->HP}(hk:∀h',Ext h h'->K f.err h'):Zhs (ZcW f) K h:=by
  unfold Zhs ZjI;refine ZH λh1 c1 e1 z1=>Za ?_;have cb:obj h1 h.size=some (.cells (Ze9 f).toArray 69 (0,0)):=c1;have s0:sz h=h.size:=rfl;refine rS (Zb cb rfl) (ZH λJ c4 U z4=>?_);have s1:sz h1=h1.size:=rfl;have s4:sz J=J.size:=rfl;have z:=Zj cb U;refine Zem (λp h'=>Ext h1 h'/\Row h' p.1 1 ((Go.Proofs.YtonbfpnngkemiaaGreat.Rw.FlowP.nms f).map sV)) ?_ ?_
  ·rintro ⟨nm,u⟩ V ⟨D,W⟩;dsimp only at W⊢;have l:=Zj cb D;refine Zem (λp h'=>Ext V h'/\∃b,p.1=At b/\Box h' b (.bool (decide (f.shape=1)||decide (f.shape=3)))) ?_ ?_
   ·rintro ⟨wp,u⟩ X ⟨m,w,rfl,Y⟩;have q:=Zj l m;refine Zem (λp h'=>Ext X h'/\∃b,p.1=At b/\Box h' b (.bool (decide (f.shape=2)||decide (f.shape=3)))) ?_ ?_
    ·rintro ⟨pp,u⟩ g ⟨d,pb,rfl,Z⟩
     have L:=Zj q d;refine ZlS rfl λlb s a bl av=>?_;have t:=Zj L a;have E:Ext h1 s:=D.trans (m.trans (d.trans a));have aw:h.size<sz g:=by have:=(D.trans (m.trans d)).size;have:sz g=g.size:=rfl;omega
     refine Zem (λ_ h'=>Ext h h'/\obj h' h.size=some (.cells (Ze9 f).toArray 69 (0,0))/\Box h' lb (i64 (if f.shape=0 then 0 else 1))/\Row h' nm 1 ((Go.Proofs.YtonbfpnngkemiaaGreat.Rw.FlowP.nms f).map sV)/\Box h' w (.bool (decide (f.shape=1)||decide (f.shape=3)))/\Box h' pb (.bool (decide (f.shape=2)||decide (f.shape=3)))) ?_ ?_
     ·rintro ⟨⟩ ax ⟨aa,A,M,N,O,P⟩;refine rS (Zb A rfl) (ZH λay ae F az=>?_)
      refine Zqi (cls:=[(.func (.func 261) #[] #[.pointer (At h.size),.pointer (At lb)],inJ f.cnt (if f.shape=0 then 0 else 1) 1099511627776),(.func (.func 262) #[] #[.pointer (At h.size)],decide (f.strat<=2)&&decide (f.shape<=3)),
        (.func (.func 263) #[] #[.pointer (At h.size)],!decide (f.strat=0)||decide (f.ref=[])),(.func (.func 264) #[] #[.pointer (At h.size)],!f.thr||decide (f.shape=0) && !f.clu),
        (.func (.func 265) #[] #[.pointer (At w),.pointer (At h.size),.pointer (At pb)],onlyIf (decide (f.shape=1)||decide (f.shape=3)) f.warm 1 3600&&onlyIf (decide (f.shape=2)||decide (f.shape=3)) f.queue 0 3600000000),
        (.func (.func 266) #[] #[.pointer (At h.size)],!f.clu||decide (f.strat=0)&&decide (f.shape=0)),(.func (.func 267) #[] #[.pointer (At h.size)],onlyIf f.clu f.id 1 1099511627776&&(f.clu|| !f.fb))])
        hl.1 (N.ext F) (λn G=>?_) (e:=30) rfl ⟨rfl,Aqo _,by show 7<_;omega,.inr ⟨_,0,rfl,Zf2 ae λi v hi=>by simpa using hi⟩⟩ (λp hp h' S x k'=>?_) λh' n G x=>Za ?_
      ·unfold FlowP.nms at G;split at G<;>simp at G
       ·rcases G with rfl|rfl
        ·exact hl.2.1
        ·exact hl.2.2
       ·subst G;exact hl.2.1
      ·have T:=F.trans x;have c:=Zj A T;have H:=k' h' (Ext.refl _);simp only[Awr,Ayi,or_false]at hp
       rcases hp with rfl|rfl|rfl|rfl|rfl|rfl|rfl
       ·exact ZNL c (M.ext T) H
       ·exact ZNK c H
       ·exact ZNJ c H
       ·exact ZNI c H
       ·exact ZNH c (O.ext T) (P.ext T) H
       ·exact ZNG c H
       ·exact ZNF c H
      ·have:n=f.err:=by
         rw[G,ZvF];unfold FlowP.err;rw[<-Zx4 rfl];rfl
       subst this;exact hk h' (aa.trans (F.trans x))
     ·have B:Ext h s:=e1.trans E;have Q:=(W.ext (m.trans (d.trans a)));refine rI (Zb t rfl) (Zhv (λh1=>Zyl bl rfl λaf R y aB=>?_) λh1=>?_)
      ·have ag:h.size≠lb:=by omega
       refine⟨B.updS y λj hj=>by subst hj;omega,YW t y ag,by rw[if_pos (by omega)];exact R,?_,?_,?_⟩
       ·refine(W.ext (m.trans d)).congr λb _ _ _ hb=>?_;show obj af b=obj g b;have aD:sz g=g.size:=rfl;have aE:sz s=s.size:=rfl;rw[Zaa y (show b<sz s by have:=a.size;omega) (by omega)];exact ZB a hb
       ·have:=(Y.ext d).lt;exact((Y.ext d).ext a).upd y (by omega)
       ·have:=Z.lt;exact(Z.ext a).upd y (by omega)
      ·exact⟨B,t,by rw[if_neg (by omega)];exact bl,Q,(Y.ext d).ext a,Z.ext a⟩
    ·refine rI (Zb q rfl) (Zhv (λh1=>ZlS rfl λb h' x I _=>⟨x,b,rfl,?_⟩) λh1=>rI (Zb q rfl) (ZlS rfl λb h' x I _=>⟨x,b,rfl,?_⟩))
     ·rw[decide_eq_true (p:=f.shape=2) (by omega),Bool.true_or];exact I
     ·rw[decide_eq_false (p:=f.shape=2) (by omega),Bool.false_or,<-ZAG];exact I
   ·refine rI (Zb l rfl) (Zhv (λh1=>ZlS rfl λb h' x I _=>⟨x,b,rfl,?_⟩) λh1=>rI (Zb l rfl) (ZlS rfl λb h' x I _=>⟨x,b,rfl,?_⟩))
    ·rw[decide_eq_true (p:=f.shape=1) (by omega),Bool.true_or];exact I
    ·rw[decide_eq_false (p:=f.shape=1) (by omega),Bool.false_or,<-ZAG];exact I
  ·have C:Own J h1.size ⟨some ⟨h1.size,0,none⟩,1,1⟩ 1 [sV f.org]:=⟨rfl,Aqo _,by show 1<_;omega,.inr ⟨_,_,_,rfl,Aqo _,c4,rfl,rfl⟩⟩
   have push:∀{S:Sl->HP},(f.strat=1\/f.strat=2)->(∀s' h',Ext h1 h'->Row h' s' 1 ((Go.Proofs.YtonbfpnngkemiaaGreat.Rw.FlowP.nms f).map sV)->S s' h')->newC J [.string (Zx f.ref)] 9 λb8 h9=>rdS ⟨some ⟨b8,0,none⟩,1,1⟩ 1 h9 λnew=>app 9 1 16 [.string (ByteArray.mk #[])] ⟨some ⟨h1.size,0,none⟩,1,1⟩ 1 new h9 S:=by
     intro S hs k;refine ZtV (cells:=[sV f.ref]) C rfl rfl rfl (show(1+1)*16<=140737488355328 by decide) (show 1+1<=140737488355328 by decide) (show h1.size<=sz J by omega) λs' h' o u _=>k s' h' (U.updS u λj hj=>?_) ?_
     ·have:h1.size=j:=by simpa[Sl.blk]using hj
      omega
     ·unfold FlowP.nms;rw[if_pos hs];exact o.row
   refine rI (Zb z rfl) (Zhv (λai=>rS (Zb z rfl) (push (.inl (by omega)) λs' h' e r=>⟨e,r⟩)) λai=>rI (Zb z rfl) (Zhv (λaj=>rS (Zb z rfl) (push (.inr (by omega)) λs' h' e r=>⟨e,r⟩)) λaj=>⟨U,?_⟩));unfold FlowP.nms;rw[if_neg (by omega)];exact C.row
theorem Ztg{cls:List Value}{T:TypeId}{b n:Nat}(c:obj h b=some (.cells cls.toArray T (0,0)))(a:cls.length=n)(hl:n<9223372036854775808):Row h ⟨some ⟨b,0,none⟩,n,n⟩ 1 cls:=
  ⟨by simp[a],Aqo _,hl,.inr ⟨_,0,rfl,Zf2 c λi v hi=>by simpa using hi⟩⟩
theorem ZG4{f:YN}{T:TypeId}{b c:Nat}{hi:Int}(cb:obj h b=some (.cells (Zdh f).toArray T (0,0)))(a:Box h c (i64 hi)){K:Bool->HP}(d:K (decide (f.grade<=2)&&inJ f.cnt 0 hi) h):Zsl (.func (.func 205) #[] #[.pointer (At b),.pointer (At c)]) K h:=by
  obtain⟨T2,a⟩:=a;refine .inr (.inr (.inr (.inr (.inr (.inr (.inr (.inl ⟨(At b,At c,()),rfl,?_⟩)))))));unfold ZcJ Zg9;refine Zg (rI (Zb cb rfl) (Zo (λh1=>Zg (rI (Zb cb rfl) (Zg (rI (Zb a rfl) (YR (Zd (ZvH d ?_))))))) λh1=>ZvH d ?_))
  ·rw[decide_eq_true (p:=f.grade<=2) (by omega),Aqa];rfl
  ·rw[decide_eq_false (p:=f.grade<=2) (by omega),Aqb]
theorem ZG3{f:YN}{T:TypeId}{b:Nat}(cb:obj h b=some (.cells (Zdh f).toArray T (0,0))){K:Bool->HP}(a:K (onlyIf (decide (f.grade=0)) f.slow 1 3600000000) h):Zsl (.func (.func 206) #[] #[.pointer (At b)]) K h:=by refine .inr (.inr (.inr (.inr (.inr (.inr (.inr (.inr (.inl ⟨(At b,()),rfl,?_⟩))))))));unfold ZcI Zg8;refine Zg (rI (Zb cb rfl) (Zg (rI (Zb cb rfl) (Zk5 (Zd (ZvH a ?_))))));rw[<-ZAG f.grade 0];rfl
theorem ZG2{f:YN}{T:TypeId}{b:Nat}(cb:obj h b=some (.cells (Zdh f).toArray T (0,0))){K:Bool->HP}(a:K (inJ f.least 1 1099511627776&&inJ f.window 1000000 120000000) h):Zsl (.func (.func 208) #[] #[.pointer (At b)]) K h:=by
  refine .inr (.inr (.inr (.inr (.inr (.inr (.inr (.inr (.inr (.inl ⟨(At b,()),rfl,?_⟩)))))))));unfold ZcH Zg7;refine Zg (rI (Zb cb rfl) (YR ?_));show Zl (inJ f.least 1 1099511627776) _ _
  cases ho:inJ f.least 1 1099511627776 with
  |false=>rw[ho]at a;exact Zi rfl a
  |true=>rw[ho]at a;exact Zn rfl (Zg (rI (Zb cb rfl) (YR (Zd a))))
theorem ZG1{f:YN}{T:TypeId}{b:Nat}(cb:obj h b=some (.cells (Zdh f).toArray T (0,0))){K:Bool->HP}(a:K (inJ f.recover 1000000 3600000000) h):Zsl (.func (.func 209) #[] #[.pointer (At b)]) K h:=by refine .inr (.inr (.inr (.inr (.inr (.inr (.inr (.inr (.inr (.inr (.inl ⟨(At b,()),rfl,?_⟩))))))))));unfold ZcG Zg6;exact Zg (rI (Zb cb rfl) (YR (Zd a)))
theorem Zln{f:YN}(hl:f.res.length<9223372036854775807){K:Int->HP}(w:∀h',Ext h h'->K f.err h'):Zc8 (ZBO f) K h:=by
  unfold Zc8 ZiK;refine ZH λh1 c1 r D=>Za ?_;have cb:obj h1 h.size=some (.cells (Zdh f).toArray 141 (0,0)):=c1;have E:sz h=h.size:=rfl;have s1:sz h1=h1.size:=rfl;refine ZlS rfl λmb F i s x=>?_;have a:=Zj cb i;refine Zem (λ_ h'=>Ext h h'/\obj h' h.size=some (.cells (Zdh f).toArray 141 (0,0))/\Box h' mb (i64 (if f.grade=2 then 1099511627776 else 1000))) ?_ ?_
  ·rintro ⟨⟩ G ⟨y,b,k⟩;refine rS (Zb b rfl) (ZH λz l d A=>?_)
   refine Zqi (cls:=[(.func (.func 205) #[] #[.pointer (At h.size),.pointer (At mb)],decide (f.grade<=2)&&inJ f.cnt 0 (if f.grade=2 then 1099511627776 else 1000)),(.func (.func 206) #[] #[.pointer (At h.size)],onlyIf (decide (f.grade=0)) f.slow 1 3600000000),
     (.func (.func 208) #[] #[.pointer (At h.size)],inJ f.least 1 1099511627776&&inJ f.window 1000000 120000000),(.func (.func 209) #[] #[.pointer (At h.size)],inJ f.recover 1000000 3600000000)])
     hl (nms:=[]) (Row.nil _ 1) (λn m=>by cases m) (e:=31) rfl (Ztg (n:=4) l rfl (by decide)) (λp t h' H o B=>?_) λh' n m o=>Za ?_
   ·have u:=d.trans o;have c:=Zj b u;have g:=B h' (Ext.refl _);simp only[Awr,Ayi,or_false]at t
    rcases t with rfl|rfl|rfl|rfl
    ·exact ZG4 c (k.ext u) g
    ·exact ZG3 c g
    ·exact ZG2 c g
    ·exact ZG1 c g
   ·have:n=f.err:=by
      rw[m];simp only[Aya,Axz,Awm,YN.err,YN.good,Ayy]
    subst this;exact w h' (y.trans (d.trans o))
  ·refine rI (Zb a rfl) (Zhv (λh1=>Zyl s rfl λI q v J=>?_) λh1=>?_)
   ·exact⟨(r.trans i).updS v λj C=>by subst C;omega,YW a v (by omega),by rw[if_pos (by omega)];exact q⟩
   ·exact⟨r.trans i,a,by rw[if_neg (by omega)];exact s⟩
theorem Zoi{f:Zav}{K:Int->HP}(l:∀h',Ext h h'->K f.err h'):Za2 (ZpX f) K h:=by
  unfold Za2 ZfH;refine ZH λh1 c1 m D=>Za ?_;have cb:obj h1 h.size=some (.cells (ZgQ f).toArray 144 (0,0)):=c1;refine rI (Zb cb rfl) (rI (Zb cb rfl) (rI (Zb cb rfl) (rI (Zb cb rfl) (rI (Zb cb rfl) (ZH λq x r E=>?_)))));obtain⟨a,d⟩:∃a,a=[f.qps,f.threads,f.rt,f.load,f.cpu]:=⟨_,rfl⟩;have y:a.length=5:=by rw[d];rfl
  have row:Row q ⟨some ⟨h1.size,0,none⟩,5,5⟩ 1 (a.map i64):=by
    rw[d];exact⟨rfl,Aqo _,by show 5<_;omega,.inr ⟨_,0,rfl,Zf2 x λi v hi=>by simpa[i64]using hi⟩⟩
  have c:a.all (λn=>inJ n (-1) 1099511627776)=(inJ f.qps (-1) 1099511627776&&inJ f.threads (-1) 1099511627776&&inJ f.rt (-1) 1099511627776&&inJ f.load (-1) 1099511627776&&inJ f.cpu (-1) 1099511627776):=by
    rw[d];simp[Ayy]
  refine YK (λp h'=>h'=q/\∃i:Nat,p.1=i/\i<=5/\(a.take i).all (λn=>inJ n (-1) 1099511627776)=true) (λp _=>(5-p.1).toNat) ⟨rfl,0,rfl,Aye _,rfl⟩ ?_;rintro⟨F,u⟩ s ⟨rfl,i,hi,z,e⟩;dsimp only at hi⊢;subst hi;refine Zo (λA=>?_) λB=>Za ?_
  ·have g:i<a.length:=by omega
   obtain⟨t,j⟩:∃t,a[i]?=some t:=⟨a[i],Axy g⟩;refine Row.idx row (i:=(i:Int)) (n:=i) rfl (v:=i64 t) (by rw[Awy,j];rfl) λb o _ C=>⟨t,C,Za (YR ?_)⟩;show Zl (!inJ t (-1) 1099511627776) _ _
   cases w:inJ t (-1) 1099511627776 with
   | false=>
     refine Zn rfl (Za ?_)
     have:f.err=33:=by
       unfold Zav.err;rw[<-c,if_neg];intro h;rw[Axb]at h;have:=h t (Axo j);rw[w]at this;cases this
     have k:=l s (m.trans r);rw[this]at k;exact k
   | true=>
     refine Zi rfl ?_;rw[Yj (by omega) (by omega)];refine⟨⟨rfl,i+1,rfl,by omega,?_⟩,by omega⟩;rw[Ayk,j,Ayp,e];simp[w]
  ·have:i=5:=by omega
   subst this;rw[Awd (by omega)]at e
   have:f.err=0:=by
     unfold Zav.err;rw[<-c,if_pos e]
   have k:=l s (m.trans r);rw[this]at k;exact k
theorem ZNB{f:Zbt}{x:Sl}{T:TypeId}{b:Nat}(cb:obj h b=some (.cells (Zix (x,f)).toArray T (0,0)))(c:Row h x 1 (f.origins.map sV)){K:Bool->HP}(a:K (decide (1<=f.origins.length)&&decide (f.origins.length<=32) && !Zh2 f.origins) h):
    Zsl (.func (.func 238) #[] #[.pointer (At b)]) K h:=by
  refine .inr (.inr (.inr (.inr (.inr (.inr (.inr (.inr (.inr (.inr (.inr (.inr (.inr (.inr (.inl ⟨(At b,()),rfl,?_⟩))))))))))))));unfold ZdC ZhL;have hl:=Zla c;refine Zg (rL (s:=x) (Zb cb rfl) (YR ?_))
  have e:(decide ((1:Int)<=(x.len:Int))&&decide ((x.len:Int)<=32))=(decide (1<=f.origins.length)&&decide (f.origins.length<=32)):=by
    rw[hl];congr 1<;>(rw[decide_eq_decide];omega)
  rw[e]
  cases ho:(decide (1<=f.origins.length)&&decide (f.origins.length<=32))with
  |false=>rw[ho]at a;exact Zi rfl a
  |true=>rw[ho]at a;exact Zn rfl (Zg (rL (s:=x) (Zb cb rfl) (ZoF c (Zd a))))
theorem Zhu{f:Zbt}{x:Sl}(hl:f.res.length<9223372036854775807/\∀n,n∈f.origins->n.length<9223372036854775807)(d:Row h x 1 (f.origins.map sV)){K:Int->HP}(i:∀h',Ext h h'->K f.err h'):ZfW (ZGB x f) K h:=by
  unfold ZfW ZjG;refine ZH λh1 c1 c m=>Za ?_;have cb:obj h1 h.size=some (.cells (Zix (x,f)).toArray 147 (0,0)):=c1;refine rS (Zb cb rfl) (rL (s:=x) (Zb cb rfl) (ZH λo j a z5=>?_))
  refine Zqi (cls:=[(.func (.func 238) #[] #[.pointer (At h.size)],decide (1<=f.origins.length)&&decide (f.origins.length<=32) && !Zh2 f.origins)])
    hl.1 (nms:=f.origins) (d.ext (c.trans a)) hl.2 (e:=34) rfl (Ztg (n:=1) j rfl (by decide)) (λp g h' q b k=>?_) λh' n l b=>Za ?_
  ·simp only[Awr,Ayi,or_false]at g;subst g;exact ZNB (Zj cb (a.trans b)) (d.ext (c.trans (a.trans b))) (k h' (Ext.refl _))
  ·have:n=f.err:=by
     rw[l];simp only[Aya,Axz,Awm,Zbt.err]
   subst this;exact i h' (c.trans (a.trans b))
theorem Zny{l:List (BL×Int)}:(Zhk l).length=l.length*2:=Zl7 (f:=λp:BL×Int=>[sV p.1,iv p.2]) (n:=2) (λ_=>rfl) l
theorem Zqs{l:List (BL×Int)}{x:Sl}(d:Row h x 2 (Zhk l)){i:Nat}{p:BL×Int}(c:l[i]?=some p){n:Int}(g:n=i){K:ByteArray->Int->Prop}(j:K (Zx p.1) p.2):YI x.ptr x.len n 2 λb o=>ldS h b o λt=>ldI h b (o+1) .i64 λt2=>K t t2:=by
  have hl:=d.len;rw[Zny]at hl;have hi:=ZAQ c
  rcases d.at_ with h0|⟨b,o,a,e⟩
  ·omega
  ·rw [a];refine ZxS (n:=i) g (by omega) ?_;have g0:h.cell b (o+i*2)=some (sV p.1):=Ziz e (by have:=ZnP (n:=2) (f:=λp:BL×Int=>[sV p.1,iv p.2]) (λ_=>rfl) l i 0 p c (by decide);simpa[Zhk]using this)
   have k:h.cell b (o+i*2+1)=some (iv p.2):=by
     have:=Ziz e (i:=i*2+1) (by have:=ZnP (n:=2) (f:=λp:BL×Int=>[sV p.1,iv p.2]) (λ_=>rfl) l i 1 p c (by decide);simpa[Zhk]using this);rw[<-Aqh]at this;exact this
   exact⟨_,g0,_,k,j⟩
theorem ZRg{f:Zen}{x:Sl}{T:TypeId}{b:Nat}(cb:obj h b=some (.cells (Zlf (x,f)).toArray T (0,0))){K:Bool->HP}(a:K (inJ f.index 0 7&&inJ f.cnt 0 1099511627776) h):Zsl (.func (.func 212) #[] #[.pointer (At b)]) K h:=by
  refine .inr (.inr (.inr (.inr (.inr (.inr (.inr (.inr (.inr (.inr (.inr (.inl ⟨(At b,()),rfl,?_⟩)))))))))));unfold Zey ZiJ;refine Zg (rI (Zb cb rfl) (YR ?_));show Zl (inJ f.index 0 7) _ _
  cases ho:inJ f.index 0 7 with
  |false=>rw[ho]at a;exact Zi rfl a
  |true=>rw[ho]at a;exact Zn rfl (Zg (rI (Zb cb rfl) (YR (Zd a))))
theorem ZRf{f:Zen}{x y:Sl}{T:TypeId}{b c:Nat}(cb:obj h b=some (.cells (Zlf (x,f)).toArray T (0,0)))(e:Row h x 2 (Zhk f.items))(d:Box h c (slV y))(g:Row h y 1 ((f.items.map (·.1)).map sV)){K:Bool->HP}
    (a:K (inJ f.secs 1 60&&decide (f.items.length<=32) && !Zh2 (f.items.map (·.1))) h):Zsl (.func (.func 213) #[] #[.pointer (At b),.pointer (At c)]) K h:=by
  obtain⟨T2,d⟩:=d;refine .inr (.inr (.inr (.inr (.inr (.inr (.inr (.inr (.inr (.inr (.inr (.inr (.inl ⟨(At b,At c,()),rfl,?_⟩))))))))))));unfold Zex ZiI;have hl:=e.len;rw[Zny]at hl;refine Zg (rI (Zb cb rfl) (YR ?_));show Zl (inJ f.secs 1 60) _ _
  cases ho:inJ f.secs 1 60 with
  |false=>rw[ho]at a;exact Zi rfl a
  | true=>
    rw[ho]at a;refine Zn rfl (Zg (rL (s:=x) (Zb cb rfl) (Zo (λh1=>Zg (rL (s:=y) (Zb d rfl) (ZoF g (Zd (ZvH a ?_))))) λh1=>ZvH a ?_)))
    ·rw[decide_eq_true (p:=f.items.length<=32) (by omega)];rfl
    ·rw[decide_eq_false (p:=f.items.length<=32) (by omega)];rfl
theorem ZRe{f:Zen}{x:Sl}{T:TypeId}{b:Nat}(cb:obj h b=some (.cells (Zlf (x,f)).toArray T (0,0)))(j:Row h x 2 (Zhk f.items)){K:Bool->HP}(o:∀h',Ext h h'->K (f.items.all λp=>decide (p.1.length<=64)&&inJ p.2 0 1099511627776) h'):
    Zsl (.func (.func 215) #[] #[.pointer (At b)]) K h:=by
  refine .inr (.inr (.inr (.inr (.inr (.inr (.inr (.inr (.inr (.inr (.inr (.inr (.inr (.inl ⟨(At b,()),rfl,?_⟩)))))))))))));unfold Zew ZiH;refine Zg (rL (s:=x) (Zb cb rfl) ?_);unfold Yc Yi Yo Yp;have hl:=j.len;rw[Zny]at hl;have big:=j.big;have cap:=j.cap;obtain⟨g,q⟩:∃g:BL×Int->Bool,g=λp=>decide (p.1.length<=64)&&inJ p.2 0 1099511627776:=⟨_,rfl⟩;rw[<-q]at o;refine Za (YK (λp h'=>Ext h h'/\∃i:Nat,p.1=i/\i<=f.items.length/\(f.items.take i).all g=true) (λp _=>(f.items.length- p.1).toNat) ⟨Ext.refl _,0,rfl,Aye _,rfl⟩ ?_);rintro⟨H,u⟩ r ⟨l,i,hi,D,t⟩;dsimp only at hi⊢;subst hi;refine Zo (λE=>Za ?_) λF=>Za (Zd (Zd ?_))
  ·have v:i<f.items.length:=by omega
   obtain⟨p,w⟩:∃p,f.items[i]?=some p:=⟨f.items[i],Axy v⟩;refine Zqs (j.ext l) w rfl ?_;unfold ZgW Zg5;refine ZH λh3 A B z3=>rS (n:=Zx p.1) (Zb A rfl) ?_
   have step:∀(bad:Bool),bad= !g p->Zl bad (Zc (i:Int) λt8=>(λ(t1:Int) r=>Zq (decide (t1>=0)) λt2=>Zq (!t2) λt3=>K t3 r) t8 h3) (Ext h h3/\(∃y:Nat,IntKind.wrap .i64 ((i:Int)+1)=y/\y<=f.items.length/\(f.items.take y).all g=true)/\(f.items.length- IntKind.wrap .i64 ((i:Int)+1)).toNat<(f.items.length- (i:Int)).toNat):=λbad m=>by
     cases d:g p with
     | false=>
       rw[d]at m;refine Zn (by rw[m];rfl) (Za (Zd (Zd ?_)));rw[show decide ((i:Int)>=0)=true by simp]
       have:f.items.all g=false:=by
         cases C:f.items.all g with
         |false=>rfl
         |true=>rw[Axb]at C;have:=C p (Axo w);rw[d]at this;cases this
       have k:=o h3 (l.trans B);rw[this]at k;exact k
     | true=>
       rw[d]at m;refine Zi (by rw[m];rfl) ?_;rw[Yj (by omega) (by omega)];refine⟨l.trans B,⟨i+1,rfl,by omega,?_⟩,by omega⟩;rw[Ayk,w,Ayp,t];simp[d]
   have G:(Zx p.1).size=p.1.length:=rfl;refine Zo (λz=>?_) λz=>rI (n:=p.2) (Zb A rfl) (YR (Zd ?_))
   ·have:=step true (by rw[q];simp only[decide_eq_false (p:=p.1.length<=64) (by omega),Aqb,Axj]);exact⟨λe=>this.1 e,λe=>by cases e⟩
   ·have:=step (!inJ p.2 0 1099511627776) (by rw[q];simp only[decide_eq_true (p:=p.1.length<=64) (by omega),Aqa]);exact⟨this.1,λe=>let⟨a,b,c⟩:=this.2 e;⟨⟨a,b⟩,c⟩⟩
  ·rw[Awd (by omega)]at t;have k:=o r l;rw[t]at k;exact k
theorem ZnD{f:Zen}{x:Sl}(hl:f.res.length<9223372036854775807)(hi:f.items.length<=1000000000000)(w:Row h x 2 (Zhk f.items)){K:Int->HP}(hk:∀h',Ext h h'->K f.err h'):ZgX (ZE8 x f) K h:=by
  unfold ZgX ZkH;refine ZH λh1 c1 e1 z1=>Za (ZH λh3 c3 X z3=>?_);have s0:sz h=h.size:=rfl;have s1:sz h1=h1.size:=rfl;have s3:sz h3=h3.size:=rfl;have cb:obj h3 h.size=some (.cells (Zlf (x,f)).toArray 72 (0,0)):=Zj c1 X;have I:=w.len;rw[Zny]at I;have big:=w.big;have cap:=w.cap;have hm:(f.items.map (·.1)).length=f.items.length:=by simp
  refine rL (s:=x) (Zb cb rfl) (YK (λp h'=>∃(i:Nat) (y:Sl),p.1=i/\i<=f.items.length/\Ext h h'/\obj h' h.size=some (.cells (Zlf (x,f)).toArray 72 (0,0))/\Box h' h1.size (slV y)/\Own h' (sz h3) y 1 (((f.items.map (·.1)).take i).map sV)) (λp _=>(f.items.length- p.1).toNat)
    ⟨0,⟨none,0,0⟩,rfl,Aye _,e1.trans X,cb,⟨_,c3⟩,Own.nil _ _ _⟩ ?_)
  rintro⟨i_,u⟩ z ⟨i,y,A,ag,g,l,m,a⟩;dsimp only at A⊢;subst A;have ah:y.len=i:=by have:=a.len;simp at this;omega
  have Y:sz h3<=sz z\/True:=.inr trivial;refine Zo (λai=>?_) λaj=>?_
  ·have J:i<f.items.length:=by omega
   obtain⟨p,B⟩:∃p,f.items[i]?=some p:=⟨f.items[i],Axy J⟩;refine Zqs (w.ext g) B rfl (ZH λC L M ak=>ZNs L (by show 2<=2;omega) rfl λk N O al=>?_);have s6:sz z=z.size:=rfl;have an:sz C=C.size:=rfl;have ao:sz k=k.size:=rfl;have d:Ext z k:=M.updS O λj G=>by subst G;exact Aqo _
   have D:=m.ext d;obtain⟨Tb,E⟩:=D;have o:Own k (sz h3) y 1 (((f.items.map (·.1)).take i).map sV):=a.congr λb _ P _=>ZB d P;have Z:=m.lt;have blt:∀{b:Nat},y.blk=some b->sz h3<=b/\b<sz z:=λe=>a.lt e;refine rL (s:=y) (Zb E rfl) (rS (n:=Zx p.1) (Zb N rfl) (ZtV (cells:=[sV p.1]) o rfl rfl rfl (by omega) (by omega) ?_ λs' Q R q ar=>?_))
   ·have:=g.size;omega
   have t:obj Q h1.size=some (.cells [slV y].toArray Tb (0,0)):=YW E q λe=>by have:=(blt e).1;omega
   refine Zbs t (by show 0<1;omega) rfl λau S v av=>?_;rw[Yj (by omega) (by omega)];refine⟨⟨i+1,s',rfl,by omega,?_,?_,⟨_,S⟩,?_⟩,by omega⟩
   ·exact((g.trans d).updS q λj G=>by have:=(blt G).1;omega).updS v λj G=>by omega
   ·exact YW (YW (Zj l d) q λe=>by have:=(blt e).1;omega) v (by omega)
   ·have:((f.items.map (·.1)).take (i+1)).map sV=((f.items.map (·.1)).take i).map sV++[sV p.1]:=by
      rw[Ayk,Awy,B];simp
    rw[this];exact R.congr λb aw P ax=>Zaa v P λe=>by omega
  ·have:i=f.items.length:=by omega
   subst this;rw[Awd (by omega)]at a;refine rS (Zb l rfl) (ZH λay T F z22=>?_)
   refine Zqi (cls:=[(.func (.func 212) #[] #[.pointer (At h.size)],inJ f.index 0 7&&inJ f.cnt 0 1099511627776),(.func (.func 213) #[] #[.pointer (At h.size),.pointer (At h1.size)],inJ f.secs 1 60&&decide (f.items.length<=32) && !Zh2 (f.items.map (·.1))),
     (.func (.func 215) #[] #[.pointer (At h.size)],f.items.all λp=>decide (p.1.length<=64)&&inJ p.2 0 1099511627776)])
     hl (nms:=[]) (Row.nil _ 1) (λn U=>by cases U) (e:=32) rfl (Ztg (n:=3) T rfl (by decide)) (λp B h' K' V W=>?_) λh' n U V=>Za ?_
   ·have H:=F.trans V;have c:=Zj l H;have r:=w.ext (g.trans H);simp only[Awr,Ayi,or_false]at B
    rcases B with rfl|rfl|rfl
    ·exact ZRg c (W h' (Ext.refl _))
    ·exact ZRf c r (m.ext H) (a.row.ext H) (W h' (Ext.refl _))
    ·exact ZRe c r W
   ·have:n=f.err:=by
      rw[U];simp only[Aya,Axz,Awm,Zen.err,Zen.good,Ayy]
    subst this;exact hk h' (g.trans (F.trans V))
end
end Go.Proofs.YtonbfpnngkemiaaGreat.Rw
namespace Go.Proofs.YtonbfpnngkemiaaGreat.Rw
open Go Go.Fw Go.Js
section
variable{H:Type}{enc:TypeId×Value->H}{P:Program}{w:World}{base:Nat}{spare:Nat->Bool}{held:Bool}
variable{tR tF tB tH tY tL tI ts tb ti tsg tsh tg sF sB sH sY sL sI sT:TypeId}
def Zi6(z:VTR):List Value:=[slV z.1,slV z.2.1,slV z.2.2.1,slV z.2.2.2.1,slV z.2.2.2.2.1]
end
end Go.Proofs.YtonbfpnngkemiaaGreat.Rw
namespace Go.Js
open Go Go.Fw Go.Js
def Zor:List (List Nat)->Nat->Option Nat
  |[],_=>none
  |es::r,k=>if 256<es.length then some k else Zor r (k+1)
def ZEz:List (List Nat)->Nat->Option (Nat×Nat×Nat)
  |[],_=>none
  | es::r,k=>match Za0 id es 0 with
    |some (i,e)=>some (k,i,e)
    |none=>ZEz r (k+1)
def Zq5(gs:List (List Nat)):Nat×Nat×Nat:=match Zor gs 1 with
  |some k=>(k,0,5)
  |none=>(ZEz gs 1).getD (0,0,0)
def RulesP.errs(r:RulesP):List (List Nat):=[r.fl.map FlowP.err,r.br.map YN.err,r.ho.map Zen.err,r.sy.map Zav.err,r.li.map Zbt.err]
theorem Zpo{α:Type}(f:α->Nat):∀(l:List α) (i:Nat),Za0 id (l.map f) i=Za0 f l i
  |[],_=>rfl
  | a::l,i=>by
    simp only[Awo,Za0,id];rw[Zpo f l]
theorem ZpO(r:RulesP):r.whereE=Zq5 r.errs:=by
  unfold RulesP.whereE Zq5 RulesP.errs;simp only[Zor,ZEz,Ayt,Zpo];split
  ·rfl
  ·split
   ·rfl
   ·split
    ·rfl
    ·split
     ·rfl
     ·split
      ·rfl
      ·cases Za0 FlowP.err r.fl 0 with
       |some p=>rfl
       | none=>cases Za0 YN.err r.br 0 with
         |some p=>rfl
         | none=>cases Za0 Zen.err r.ho 0 with
           |some p=>rfl
           | none=>cases Za0 Zav.err r.sy 0 with
             |some p=>rfl
             | none=>cases Za0 Zbt.err r.li 0 with
               |some p=>rfl
               |none=>rfl
theorem Zo8{gs:List (List Nat)}{i k:Nat}{es:List Nat}(h:gs[i]?=some es):Zor (gs.drop i) k=if 256<es.length then some k else Zor (gs.drop (i+1)) (k+1):=by obtain⟨hi,rfl⟩:=Ayf.1 h;rw[Aym hi];rfl
theorem Zyd{gs:List (List Nat)}{i k:Nat}{es:List Nat}(h:gs[i]?=some es):ZEz (gs.drop i) k=match Za0 id es 0 with
    |some (i,e)=>some (k,i,e)
    |none=>ZEz (gs.drop (i+1)) (k+1):=by
  obtain⟨hi,rfl⟩:=Ayf.1 h;rw[Aym hi];rfl
theorem ZnQ{es:List Nat}{i k e:Nat}(h:es[i]?=some e):Za0 id (es.drop i) k=if e=0 then Za0 id (es.drop (i+1)) (k+1)else some (k,e):=by obtain⟨hi,rfl⟩:=Ayf.1 h;rw[Aym hi];rfl
end Go.Js
namespace Go.Proofs.YtonbfpnngkemiaaGreat.Rw
open Go Go.Fw Go.Js
section
variable{h:Zf}
theorem Zna{α:Type}{c:α->List Value}{n:Nat}(e:∀a,(c a).length=n){l:List α}{x:Sl}(f:Row h x n (l.flatMap c))(j:0<n){i:Nat}{a:α}(g:l[i]?=some a){k:Int}(p:k=i){P:Nat->Nat->Prop}
    (q:∀b o,(∀m v,(c a)[m]?=some v->h.cell b (o+m)=some v)->P b o):YI x.ptr x.len k n P:=by
  have hl:=f.len;rw[Zl7 e]at hl;have hi:=ZAQ g;have r:x.len=l.length:=Ayd j hl.symm
  rcases f.at_ with h0|⟨b,o,d,s⟩
  ·omega
  ·rw [d]
   refine ZxS (n:=i) p (by omega) (q b _ λm v hv=>?_);have hm:m<n:=by rw[<-e a];exact ZAQ hv
   have:=Ziz s (i:=i*n+m) (by rw[ZnP e l i m a g hm];exact hv);rw[<-Aqh]at this;exact this
theorem ZlL{α:Type}{c:α->List Value}{n:Nat}(b:∀a,(c a).length=n){l:List α}{x:Sl}(d:Row h x n (l.flatMap c))(e:0<n):x.len=l.length:=by have hl:=d.len;rw[Zl7 b]at hl;exact Ayd e hl.symm
def ZFc(cl:Value)(i:Int)(K:Int->HP)(h:Zf):Prop:=
  (exG cl (λc:Option Addr×Unit=>.func (.func 197) #[] ⟨[.pointer c.1]⟩) λc=>ZbU i c.1 K h)\/(
  (exG cl (λc:Option Addr×Unit=>.func (.func 199) #[] ⟨[.pointer c.1]⟩) λc=>ZbT i c.1 K h)\/(
  (exG cl (λc:Option Addr×Unit=>.func (.func 200) #[] ⟨[.pointer c.1]⟩) λc=>ZbS i c.1 K h)\/(
  (exG cl (λc:Option Addr×Unit=>.func (.func 201) #[] ⟨[.pointer c.1]⟩) λc=>ZbR i c.1 K h)\/(
  (exG cl (λc:Option Addr×Unit=>.func (.func 203) #[] ⟨[.pointer c.1]⟩) λc=>ZbQ i c.1 K h)\/False))))
def RulesP.fit(r:RulesP):Prop:=(∀f,f∈r.fl->f.res.length<9223372036854775807/\f.org.length<9223372036854775807/\f.ref.length<9223372036854775807)/\(∀f,f∈r.br->f.res.length<9223372036854775807)/\
  (∀f,f∈r.ho->f.res.length<9223372036854775807/\f.items.length<=1000000000000)/\∀f,f∈r.li->f.res.length<9223372036854775807/\∀n,n∈f.origins->n.length<9223372036854775807
theorem ZrM{α:Type}{f:α->Nat}{l:List α}{j e:Nat}(h:(l.map f)[j]?=some e):∃a,l[j]?=some a/\e=f a:=by rw[Awy,Ayz]at h;obtain⟨a,h1,b⟩:=h;exact⟨a,h1,b.symm⟩
abbrev clG(F gb:Nat):Value:=.func (.func F) #[] #[.pointer (At gb)]
theorem ZEp{z:VTR}{r:RulesP}{S:Nat->Prop}(i:YY h S z r)(k:Go.Proofs.YtonbfpnngkemiaaGreat.Rw.RulesP.fit r){gb:Nat}{T:TypeId}(c:obj h gb=some (.cells (Zi6 z).toArray T (0,0))){j e:Nat}(he:(r.fl.map FlowP.err)[j]?=some e){K:Int->HP}(l:∀h',Ext h h'->K e h'):
    ZFc (clG 197 gb) j K h:=by
  obtain⟨a,d,rfl⟩:=ZrM he;refine .inl ⟨(At gb,()),rfl,?_⟩;unfold ZbU Zgi;refine Za (Zg (rL (s:=z.1) (Zb c rfl) (Zna (c:=Ze9) (λ_=>rfl) i.fl.1 (by decide) d rfl λb o g=>?_)));refine⟨_,g 0 _ rfl,_,g 1 _ rfl,_,g 2 _ rfl,_,g 3 _ rfl,_,g 4 _ rfl,_,g 5 _ rfl,_,g 6 _ rfl,_,g 7 _ rfl,_,g 8 _ rfl,_,g 9 _ rfl,_,g 10 _ rfl,_,g 11 _ rfl,?_⟩;exact ZrG (f:=a) (k.1 a (Axo d)) λh' m=>Za (l h' m)
theorem ZEo{z:VTR}{r:RulesP}{S:Nat->Prop}(i:YY h S z r)(k:Go.Proofs.YtonbfpnngkemiaaGreat.Rw.RulesP.fit r){gb:Nat}{T:TypeId}(c:obj h gb=some (.cells (Zi6 z).toArray T (0,0))){j e:Nat}(he:(r.br.map YN.err)[j]?=some e){K:Int->HP}(l:∀h',Ext h h'->K e h'):
    ZFc (clG 199 gb) j K h:=by
  obtain⟨a,d,rfl⟩:=ZrM he;refine .inr (.inl ⟨(At gb,()),rfl,?_⟩);unfold ZbT Zgh;refine Za (Zg (rL (s:=z.2.1) (Zb c rfl) (Zna (c:=Zdh) (λ_=>rfl) i.br.1 (by decide) d rfl λb o g=>?_)));refine⟨_,g 0 _ rfl,_,g 1 _ rfl,_,g 2 _ rfl,_,g 3 _ rfl,_,g 4 _ rfl,_,g 5 _ rfl,_,g 6 _ rfl,?_⟩;exact Zln (f:=a) (k.2.1 a (Axo d)) λh' m=>Za (l h' m)
theorem ZEn{z:VTR}{r:RulesP}{S:Nat->Prop}(k:YY h S z r)(l:Go.Proofs.YtonbfpnngkemiaaGreat.Rw.RulesP.fit r){gb:Nat}{T:TypeId}(c:obj h gb=some (.cells (Zi6 z).toArray T (0,0))){j e:Nat}(he:(r.ho.map Zen.err)[j]?=some e){K:Int->HP}(m:∀h',Ext h h'->K e h'):
    ZFc (clG 200 gb) j K h:=by
  obtain⟨a,d,rfl⟩:=ZrM he;obtain⟨t,h1,n,h3⟩:=k.ho;rw[<-h1,Awy,Ayz]at d;obtain⟨p,d,rfl⟩:=d;refine .inr (.inr (.inl ⟨(At gb,()),rfl,?_⟩));unfold ZbS Zgg;refine Za (Zg (rL (s:=z.2.2.1) (Zb c rfl) (Zna (c:=Zlf) (λ_=>rfl) n.1 (by decide) d rfl λb o g=>?_)));refine⟨_,g 0 _ rfl,_,g 1 _ rfl,_,g 2 _ rfl,_,g 3 _ rfl,p.1,g 4 _ rfl,?_⟩;have hm:=Axo d;have i:=l.2.2.1 p.2 (by rw[<-h1];exact Ayv.2 ⟨p,hm,rfl⟩);exact ZnD (f:=p.2) (x:=p.1) i.1 i.2 (h3 p hm).1 λh' q=>Za (m h' q)
theorem ZEm{z:VTR}{r:RulesP}{S:Nat->Prop}(d:YY h S z r){gb:Nat}{T:TypeId}(c:obj h gb=some (.cells (Zi6 z).toArray T (0,0))){j e:Nat}(he:(r.sy.map Zav.err)[j]?=some e){K:Int->HP}(i:∀h',Ext h h'->K e h'):
    ZFc (clG 201 gb) j K h:=by
  obtain⟨a,k,rfl⟩:=ZrM he;refine .inr (.inr (.inr (.inl ⟨(At gb,()),rfl,?_⟩)));unfold ZbR Zgf;refine Za (Zg (rL (s:=z.2.2.2.1) (Zb c rfl) (Zna (c:=ZgQ) (λ_=>rfl) d.sy.1 (by decide) k rfl λb o g=>?_)));refine⟨_,g 0 _ rfl,_,g 1 _ rfl,_,g 2 _ rfl,_,g 3 _ rfl,_,g 4 _ rfl,?_⟩;exact Zoi (f:=a) λh' l=>Za (i h' l)
theorem ZEl{z:VTR}{r:RulesP}{S:Nat->Prop}(i:YY h S z r)(k:Go.Proofs.YtonbfpnngkemiaaGreat.Rw.RulesP.fit r){gb:Nat}{T:TypeId}(c:obj h gb=some (.cells (Zi6 z).toArray T (0,0))){j e:Nat}(he:(r.li.map Zbt.err)[j]?=some e){K:Int->HP}(l:∀h',Ext h h'->K e h'):
    ZFc (clG 203 gb) j K h:=by
  obtain⟨a,d,rfl⟩:=ZrM he;obtain⟨q,h1,m,h3⟩:=i.li;rw[<-h1,Awy,Ayz]at d;obtain⟨p,d,rfl⟩:=d;refine .inr (.inr (.inr (.inr (.inl ⟨(At gb,()),rfl,?_⟩))));unfold ZbQ Zge;refine Za (Zg (rL (s:=z.2.2.2.2.1) (Zb c rfl) (Zna (c:=Zix) (λ_=>rfl) m.1 (by decide) d rfl λb o g=>?_)));refine⟨_,g 0 _ rfl,_,g 1 _ rfl,p.1,g 2 _ rfl,?_⟩;have hm:=Axo d;exact Zhu (f:=p.2) (x:=p.1) (k.2.2.2 p.2 (by rw[<-h1];exact Ayv.2 ⟨p,hm,rfl⟩)) (h3 p hm).1 λh' n=>Za (l h' n)
def ZGV(p:Nat×List Nat×Value):List Value:=[i8 p.1,i64 (p.2.1.length:Int),p.2.2]
def Zsh(r:RulesP)(gb:Nat):List (Nat×List Nat×Value):=[(1,r.fl.map FlowP.err,clG 197 gb),(2,r.br.map YN.err,clG 199 gb),(3,r.ho.map Zen.err,clG 200 gb),(4,r.sy.map Zav.err,clG 201 gb),(5,r.li.map Zbt.err,clG 203 gb)]
theorem Zs8{z:VTR}{r:RulesP}{S:Nat->Prop}(a:YY h S z r){K:Sl->HP}
    (e:∀x gb h',Ext h h'->obj h' gb=some (.cells (Zi6 z).toArray 39 (0,0))->Row h' x 3 ((Zsh r gb).flatMap ZGV)->K x h'):ZdB z K h:=by
  unfold ZdB ZhK;refine ZH λh1 c1 f C=>?_;have cb:obj h1 h.size=some (.cells (Zi6 z).toArray 39 (0,0)):=c1;refine rL (s:=z.1) (Zb cb rfl) ⟨rfl,rL (s:=z.2.1) (Zb cb rfl) ⟨rfl,rL (s:=z.2.2.1) (Zb cb rfl) ⟨rfl,rL (s:=z.2.2.2.1) (Zb cb rfl) ⟨rfl,rL (s:=z.2.2.2.2.1) (Zb cb rfl) ⟨rfl,ZH λg b d D=>?_⟩⟩⟩⟩⟩;have j:=ZlL (c:=Ze9) (n:=12) (λ_=>rfl) a.fl.1 (by decide);have k:=ZlL (c:=Zdh) (n:=7) (λ_=>rfl) a.br.1 (by decide);have l:=ZlL (c:=ZgQ) (n:=5) (λ_=>rfl) a.sy.1 (by decide);obtain⟨m,o,p,E⟩:=a.ho;obtain⟨q,t,u,F⟩:=a.li;have w:=ZlL (c:=Zlf) (n:=5) (λ_=>rfl) p.1 (by decide);have y:=ZlL (c:=Zix) (n:=3) (λ_=>rfl) u.1 (by decide);have A:m.length=r.ho.length:=by rw[<-o];simp
  have B:q.length=r.li.length:=by rw[<-t];simp
  rw[j,k,w,l,y,A,B]at b;refine e _ h.size g (f.trans d) (Zj cb d) ⟨rfl,Aqo _,by show 5<_;omega,.inr ⟨_,0,rfl,Zf2 b λi v hi=>?_⟩⟩;rw[Awb];simpa[Zsh,ZGV,i8,i64,Ayt]using hi
theorem Zu1{z:VTR}{r:RulesP}{S:Nat->Prop}(hr:YY h S z r)(hf:Go.Proofs.YtonbfpnngkemiaaGreat.Rw.RulesP.fit r){K:Int->Int->Int->HP}(D:∀h' (p:Nat×Nat×Nat),p=r.whereE->Ext h h'->K p.1 p.2.1 p.2.2 h'):Zgx z K h:=by
  unfold Zgx ZiG;refine ZH λh1 c1 e1 z1=>Za (Za (Za ?_));have cb:obj h1 h.size=some (.cells (Zi6 z).toArray 39 (0,0)):=c1;refine rL (s:=z.1) (Zb cb rfl) (rL (s:=z.2.1) (Zb cb rfl) (rL (s:=z.2.2.1) (Zb cb rfl) (rL (s:=z.2.2.2.1) (Zb cb rfl) (rL (s:=z.2.2.2.2.1) (Zb cb rfl) (Zs8 (z:=z) (hr.ext e1) λx gb G af cg row=>?_)))));have f:=e1.trans af;have hx:x.len=5:=ZlL (c:=ZGV) (n:=3) (λ_=>rfl) row (by decide);have ag:(Zsh r gb).map (·.2.1)=r.errs:=rfl
  have E:∀(i:Nat) p,(Zsh r gb)[i]?=some p->p.1=i+1:=λi p d=>by
    match i,d with
    | 0,d=>cases d;rfl
    | 1,d=>cases d;rfl
    | 2,d=>cases d;rfl
    | 3,d=>cases d;rfl
    | 4,d=>cases d;rfl
    |n+5,d=>cases d
  have C:∀(i:Nat) p,(Zsh r gb)[i]?=some p->r.errs[i]?=some p.2.1:=λi p d=>by rw[<-ag,Awy,d];rfl
  have F:∀(i:Nat) p,(Zsh r gb)[i]?=some p->Zr p.2.2=true:=λi p d=>by
    have hm:=Axo d;simp only[Zsh,Awr,Ayi,or_false]at hm
    rcases hm with rfl|rfl|rfl|rfl|rfl<;>rfl
  have H:∀p,p∈Zsh r gb->∀{h':Zf} {j e:Nat} {K:Int->HP},Ext G h'->p.2.1[j]?=some e->(∀h'',Ext h' h''->K e h'')->ZFc p.2.2 j K h':=λp d h' j e K e' he k=>by
    have P:=hr.ext (f.trans e');have c:=Zj cg e';simp only[Zsh,Awr,Ayi,or_false]at d
    rcases d with rfl|rfl|rfl|rfl|rfl
    ·exact ZEp P hf c he k
    ·exact ZEo P hf c he k
    ·exact ZEn P hf c he k
    ·exact ZEm P c he k
    ·exact ZEl P hf c he k
  have aB:(Zsh r gb).length=5:=rfl;refine YK (λp h'=>Ext G h'/\∃i:Nat,p.1=i/\i<=5/\Zor (r.errs.drop i) (i+1)=Zor r.errs 1) (λp _=>(5-p.1).toNat) ⟨Ext.refl _,0,rfl,Aye _,rfl⟩ ?_;rintro⟨i_,u⟩ ah ⟨w,i,hi,ai,Q⟩;dsimp only at hi⊢;subst hi;refine Zo (λR=>?_) λT=>?_
  ·have I:i<(Zsh r gb).length:=by omega
   obtain⟨p,d⟩:∃p,(Zsh r gb)[i]?=some p:=⟨(Zsh r gb)[i],Axy I⟩;have y:=C i p d;have J:=E i p d;refine Zna (c:=ZGV) (λ_=>rfl) (row.ext w) (by decide) d rfl λb o g=>⟨_,g 0 _ rfl,_,g 1 _ rfl,_,g 2 _ rfl,ZH λaD aj ak aE=>ZNs aj (by show 3<=3;omega) (by show(true&&(true&&(Zr p.2.2&&true)))=true;rw[F i p d];rfl) λU V al aF=>?_⟩;have A:Ext ah U:=ak.updS al λj O=>by subst O;exact Aqo _
   have W:=f.trans (w.trans A);refine rI (Zb V rfl) (Zo (λaG=>rI (Zb V rfl) (Za (Za (Za ?_)))) λhle=>?_)
   ·rw [Zo8 y,if_pos (by omega)]at Q
    have:r.whereE=(i+1,0,5):=by rw[ZpO];unfold Zq5;rw[<-Q]
    rw[J];exact D U (i+1,0,5) this.symm W
   ·rw[Zo8 y,if_neg (by omega)]at Q;rw[Yj (by omega) (by omega)];exact⟨⟨w.trans A,i+1,rfl,by omega,Q⟩,by omega⟩
  ·have:i=5:=by omega
   subst this;have l:Zor r.errs 1=none:=by rw[<-Q];rfl
   have az:=f.trans w;refine YK (λp h'=>Ext G h'/\∃i:Nat,p.1=i/\i<=5/\ZEz (r.errs.drop i) (i+1)=ZEz r.errs 1) (λp _=>(5-p.1).toNat) ⟨w,0,rfl,Aye _,rfl⟩ ?_;rintro⟨i_,u⟩ X ⟨L,i,hi,ai,t⟩;dsimp only at hi⊢;subst hi;refine Zo (λR=>?_) λT=>Za (Za (Za ?_))
   ·have I:i<(Zsh r gb).length:=by omega
    obtain⟨p,d⟩:∃p,(Zsh r gb)[i]?=some p:=⟨(Zsh r gb)[i],Axy I⟩;have y:=C i p d;have J:=E i p d;have hm:=Axo d;refine Zna (c:=ZGV) (λ_=>rfl) (row.ext L) (by decide) d rfl λb o g=>⟨_,g 0 _ rfl,_,g 1 _ rfl,_,g 2 _ rfl,ZH λaH an ao aI=>ZNs an (by show 3<=3;omega) (by show(true&&(true&&(Zr p.2.2&&true)))=true;rw[F i p d];rfl) λY Z aq z35=>?_⟩;have M:Ext X Y:=ao.updS aq λj O=>by subst O;exact Aqo _
    have m:=L.trans M
    have hlen:p.2.1.length<=256:=by
      have hn:∀(gs:List (List Nat)) (k:Nat),Zor gs k=none->∀es,es∈gs->es.length<=256:=by
        intro gs
        induction gs with
        |nil=>intro k _ es h;cases h
        | cons a gs ih=>
          intro k D es C;simp only[Zor]at D;split at D
          ·cases D
          ·rcases Awr.1 C with rfl|h
           ·omega
           ·exact ih _ D es h
      exact hn _ _ l _ (Axo y)
    rw[Zyd y]at t;refine rI (Zb Z rfl) (YK (λq h'=>Ext Y h'/\∃j:Nat,q.1=j/\j<=p.2.1.length/\Za0 id (p.2.1.drop j) j=Za0 id p.2.1 0) (λq _=>(p.2.1.length- q.1).toNat) ⟨Ext.refl _,0,rfl,Aye _,rfl⟩ ?_);rintro⟨j_,u⟩ aL ⟨B,j,O,aM,v⟩;dsimp only at O⊢;subst O;have aa:=Zj Z B;refine Zo (λR=>Za ?_) λT=>?_
    ·have ar:j<p.2.1.length:=by omega
     obtain⟨e,he⟩:∃e,p.2.1[j]?=some e:=⟨p.2.1[j],Axy ar⟩;refine rV (n:=p.2.2) (Zb aa rfl) ?_;refine H p hm (m.trans B) he λau N=>Za (Zqt (λaN=>?_) λheq=>?_)
     ·have av:=Zj aa N;refine rI (Zb av rfl) (Za (Za (Za ?_)));rw[ZnQ he,if_neg (by omega)]at v;rw[<-v]at t
      have:r.whereE=(i+1,j,e):=by
        rw[ZpO];unfold Zq5;rw[l,<-t];rfl
      rw[J];exact D au (i+1,j,e) this.symm (f.trans (m.trans (B.trans N)))
     ·rw[ZnQ he,if_pos (by omega)]at v;rw[Yj (by omega) (by omega)];exact⟨⟨B.trans N,j+1,rfl,by omega,v⟩,by omega⟩
    ·have:j=p.2.1.length:=by omega
     subst this;rw[List.drop_length]at v;rw[<-v]at t;rw[Yj (by omega) (by omega)];exact⟨⟨m.trans B,i+1,rfl,by omega,t⟩,by omega⟩
   ·have:i=5:=by omega
    subst this
    have:r.whereE=(0,0,0):=by
      rw[ZpO];unfold Zq5;rw[l,<-t];rfl
    exact D X (0,0,0) this.symm (f.trans L)
end
end Go.Proofs.YtonbfpnngkemiaaGreat.Rw
namespace Go.Proofs.YtonbfpnngkemiaaGreat
open Go Go.Fw Go.Js
def ZHS(p:BL×Int):KI:=(Zx p.1,p.2)
theorem Zqn(l:List (BL×Int)):(l.map ZHS).flatMap kiL=Rw.Zhk l:=by
  unfold Rw.Zhk
  induction l with
  |nil=>rfl
  |cons a l b=>rw[Awo,Ayc,Ayc,b];rfl
theorem Zmj{h:Zf}{s:Sl}{l:List KI}(hs:Row h s 2 (l.flatMap kiL))(hl:l.length<=1000000){K:Sl->Zf->Prop}
    (i:∀t h',Own h' h.size t 2 (l.flatMap kiL)->Ext h h'->K t h'):Z3 s K h:=by
  unfold Z3 Xt;have d:=Zal Zqo hs (by decide);refine⟨λq=>?_,λq=>?_⟩
  ·rcases hs.at_ with h0|⟨b,o,j,r⟩
   ·have:l=[]:=Aqr (by omega);subst this;exact i _ _ (Own.nil _ _ _) (Ext.refl h)
   ·rw[j]at q;cases q
  ·rw [Zir];have e:Ext h (h.push (.cells ([]:List Value).toArray 74 (0,0))):=Ext.push _ _;refine(hs.ext e).rd ?_;have ho:Own (h.push (.cells ([]:List Value).toArray 74 (0,0))) h.size ⟨some ⟨sz h,0,none⟩,0,0⟩ 2 []:=⟨rfl,Aqo _,(by show 0<9223372036854775808;decide),.inr ⟨sz h,#[],74,rfl,Aqo _,Zc2,rfl,rfl⟩⟩
   have a:(l.flatMap kiL).all Zr=true:=by
     rw[Axb];intro v hv;obtain⟨t,_,hv⟩:=List.mem_flatMap.1 hv;exact Axb.1 (ZD1 t) v hv
   refine Own.app ho (by rw[YM Zqo,d]) a rfl (by show(0+s.len)*24<=140737488355328;omega) (by show 0+s.len<=140737488355328;omega) (show h.size<=_ from e.size) λt m f n g p=>?_;refine i t m ?_ (e.then g λk c=>?_)
   ·simpa using f
   ·simp[Sl.blk]at c;rw[YJ,<-c];exact Aqo _
def HtS.new(f:Zen)(most seed:Int):HtS:=⟨Zx f.res,f.index,f.cnt,f.secs,f.items.map ZHS,most,[],λ_=>⟨0,λ_=>z6⟩,Sk.new (f.secs*100000) seed,0⟩
theorem Zt7{f:Zen}(he:f.err=0):(1<=f.secs/\f.secs<=60)/\f.items.length<=32:=by
  unfold Zen.err at he;split at he
  ·split at he
   ·rename_i _ a;unfold Zen.good Js.inJ at a;simp only[Awn,decide_eq_true_eq]at a;omega
   ·cases he
  ·cases he
theorem ZyK{f:Zen}(he:f.err=0)(hl:f.res.length<9223372036854775807){most seed:Int}(hm:1<=most/\most<=4096){h:Zf}{x:Sl}(X:Row h x 2 (Rw.Zhk f.items)){K:Option Addr->Int->Zf->Prop}
    (hk:∀h' p T,HtR h' p T (HtS.new f most seed)->(∀j,T j≠none->sz h<=j)->Ext h h'->K (some ⟨p,0,none⟩) 0 h'):Zjv (Rw.ZE8 x f) most seed K h:=by
  obtain⟨hs,hi⟩:=Zt7 he;unfold Zjv ZnJ;refine ZH λh1 c1 Y z1=>Za (rS (Zb c1 rfl) (rI (Zb c1 rfl) (rI (Zb c1 rfl) (rI (Zb c1 rfl) (rL (Zb c1 rfl) (Rw.ZnD (f:=f) (x:=x) hl (by omega) (X.ext Y) λc J=>Za ?_))))));rw[he];refine Zi rfl (ZyH hm λh3 Z e3=>Za (Zi rfl ?_));have c3:=Zj (Zj c1 J) e3;have B:=(Y.trans J).trans e3;refine rL (Zb c3 rfl) (Zmj (l:=f.items.map ZHS) (by rw[Zqn];exact X.ext B) (by rw[Ayt];omega) λt i o4 G=>?_);have c4:=Zj c3 G;refine Zbs c4 (show 0+4<5 by decide) Zbf λg C u5 z5=>?_;refine rS (Zb C rfl) (rI (Zb C rfl) (rI (Zb C rfl) (rI (Zb C rfl) (rL (Zb C rfl) (Zlw.new λq m6 e6 L=>ZH λM w N z7=>?_)))));refine rS (Zb w rfl) (rI (Zb w rfl) (rI (Zb w rfl) (rI (Zb w rfl) (rL (Zb w rfl) (ZoE hs λo D=>?_)))));rw[show f.secs*1000000=f.secs*100000*10 by omega];refine Zvr (d:=f.secs*100000) (by omega) λz s9 H z9=>?_;have c9:=Zj (Zj w D) H;refine Zbs c9 (show 0+7<9 by decide) rfl λm O r P=>Za (Za ?_);have b1:sz h1=sz h+1:=z1;have av:sz h1<=sz c:=J.size
  have aw:sz c+2<=sz h3:=by
    have z:=Z.ex;obtain⟨nd,mb,pv,nx,f9,_,hM⟩:=z;exact hM.lt _ hM.os
  have ax:sz h3<=sz i:=G.size;have ay:sz g=sz i:=z5;have az:sz q=sz g+1:=L;have aA:sz M=sz q+1:=z7;have aB:sz M<=sz o:=D.size;have aC:sz z=sz o+1:=z9;have aD:sz m=sz z:=P;have aE:h3.size=sz h3:=rfl;have aF:i.size=sz i:=rfl;have aG:g.size=sz g:=rfl;have aH:q.size=sz q:=rfl;have u:=λ(b:Nat) (p:t.blk=some b)=>o4.lt p
  have kp:∀(j:Nat) {y:Obj},sz c<=j->obj i j=some y->obj m j=some y:=λj {y} a A=>by
    have l4:=Zp A;have I:obj g j=some y:=YW A u5 (by have:h.size=sz h:=rfl;omega);exact YW (Zj (Zj (Zj (Zj I e6) N) D) H) r (by omega)
  have kq:∀j,sz c<=j->j<sz i->obj m j=obj i j:=λj a Q=>by
    cases A:obj i j with
    | none=>
      have:j<i.size:=Q;rw[show obj i j=i[j]? from rfl,Array.getElem?_eq_getElem this]at A;cases A
    |some y=>exact kp j a A
  let T:Nat->Option HTag:=λj=>if j=sz q then some .me else if j=sz g then some .map else if j=sz o then some .sk else if j=sz c\/j=sz c+1 then some .lru else if t.blk=some j then some .items else none
  have R:T (sz q)=some .me:=if_pos rfl;have E:T (sz g)=some .map:=by show(if _ then _ else _)=_;rw[if_neg (by omega),if_pos rfl]
  have S:T (sz o)=some .sk:=by show(if _ then _ else _)=_;rw[if_neg (by omega),if_neg (by omega),if_pos rfl]
  have F:∀j,j=sz c\/j=sz c+1->T j=some .lru:=λj a=>by show(if _ then _ else _)=_;rw[if_neg (by omega),if_neg (by omega),if_neg (by omega),if_pos a]
  have U:∀b,t.blk=some b->T b=some .items:=λb p=>by
    have:=u b p;show(if _ then _ else _)=_;rw[if_neg (by omega),if_neg (by omega),if_neg (by omega),if_neg (by omega),if_pos p]
  have s:∀j,T j≠none->sz h<=j/\j<sz m:=λj a=>by
    by_cases q1:j=sz q
    ·omega
    by_cases q2:j=sz g
    ·omega
    by_cases q3:j=sz o
    ·omega
    by_cases v:j=sz c\/j=sz c+1
    ·omega
    by_cases I:t.blk=some j
    ·have:=u j I;omega
    ·exfalso;apply a;show(if _ then _ else _)=_;rw[if_neg q1,if_neg q2,if_neg q3,if_neg v,if_neg I]
  have V:∀j,T j=some .lru->j=sz c\/j=sz c+1:=λj a=>by
    by_cases v:j=sz c\/j=sz c+1
    ·exact v
    ·exfalso;change (if _ then _ else _)=_ at a;rw[if_neg v]at a;split at a
     ·cases a
     ·split at a
      ·cases a
      ·split at a
       ·cases a
       ·split at a<;>cases a
  have al:∀j,T j=some .sk->j=sz o:=λj a=>by
    by_cases v:j=sz o
    ·exact v
    ·exfalso;change (if _ then _ else _)=_ at a;rw[if_neg v]at a;split at a
     ·cases a
     ·split at a
      ·cases a
      ·split at a
       ·cases a
       ·split at a<;>cases a
  have W:=(((m6.congr (N.old _ m6.lt)).congr (D.old _ (by show g.size<sz M;omega))).congr (H.old _ (by show g.size<sz o;omega))).congr (r.old _ (by show g.size<sz z;omega) (by omega));refine hk m (sz q) T ⟨⟨t,sz c+1,sz g,sz o,_,_,λ_=>(0,0),⟨none,0,0⟩,[],O,R,hs,?_,U,?_,W,E,λk n=>(by cases n),λk _=>rfl,?_,λj a=>(s j a).2⟩⟩ (λj a=>(s j a).1) ?_
  ·refine(o4.base (Aye _)).congr λb p _ _=>?_;have:=u b p;exact kq b (by omega) this.2
  ·refine Z.congr (λj a=>F j a) (λj a=>(s j (by rw[a];exact λe=>by cases e)).2) λj a=>?_;rw[kq j (by omega) (by omega)];exact ZB G (by omega)
  ·refine s9.congr (λj a=>by rw[a];exact S) (λj a=>(s j (by rw[a];exact λe=>by cases e)).2) λj a=>?_;rw[a];exact r.old _ (by show sz o<sz z;omega) (by omega)
  ·refine (((((((B.trans G).then u5 λk n=>?_).trans e6).trans N).trans D).trans H).then r λk n=>?_)
   ·rw[n];exact Aqo _
   ·rw[n];show sz h<=sz q;omega
abbrev ShS:=Option Pc×Option Wm
def ShS.new(f:FlowP):ShS:=(if f.shape=2\/f.shape=3 then some (0,false,f.cnt,f.queue,0,())else none,if f.shape=1\/f.shape=3 then some (Wm.new f.cnt f.warm)else none)
def ZxW(h:Zf)(O:Nat->Prop)(p:Option Addr):Option Pc->Prop
  |none=>p=none
  |some x=>∃b,p=some ⟨b,0,none⟩/\obj h b=some (pcO x)/\O b
def ZBI(h:Zf)(O:Nat->Prop)(p:Option Addr):Option Wm->Prop
  |none=>p=none
  |some x=>∃b,p=some ⟨b,0,none⟩/\obj h b=some (wmO x)/\O b
theorem ZxW.congr{h h':Zf}{O O':Nat->Prop}{p:Option Addr}:∀{x:Option Pc},ZxW h O p x->(∀j,O j->j<sz h->O' j)->(∀j,O j->j<sz h->obj h' j=obj h j)->ZxW h' O' p x
  |none,a,_,_=>a
  |some x,⟨b,e,c,o⟩,h1,d=>⟨b,e,(d b o (Zp c)).trans c,h1 b o (Zp c)⟩
theorem ZBI.congr{h h':Zf}{O O':Nat->Prop}{p:Option Addr}:∀{x:Option Wm},ZBI h O p x->(∀j,O j->j<sz h->O' j)->(∀j,O j->j<sz h->obj h' j=obj h j)->ZBI h' O' p x
  |none,a,_,_=>a
  |some x,⟨b,e,c,o⟩,h1,d=>⟨b,e,(d b o (Zp c)).trans c,h1 b o (Zp c)⟩
abbrev ShR(h:Zf)(O:Nat->Prop)(p:Option Addr×Option Addr)(s:ShS):Prop:=ZxW h O p.1 s.1/\ZBI h O p.2 s.2
theorem Zx3{f:FlowP}(he:f.err=0):f.shape<=3/\(f.shape≠0->1<=f.cnt)/\(0<=f.cnt/\f.cnt<=1099511627776)/\(f.shape=1\/f.shape=3->1<=f.warm/\f.warm<=3600)/\(f.shape=2\/f.shape=3->0<=f.queue/\f.queue<=3600000000):=by
  unfold FlowP.err at he;split at he
  case isFalse=>cases he
  split at he
  case isFalse=>cases he
  rename_i _ a;unfold FlowP.good Js.onlyIf Js.inJ at a;simp only[Awn,decide_eq_true_eq,Bool.or_eq_true]at a;obtain⟨⟨⟨⟨⟨⟨⟨b,d⟩,a3,a4⟩,_⟩,_⟩,a5,c⟩,_⟩,_,_⟩:=a;refine⟨a4,λh=>?_,⟨?_,d⟩,λh=>?_,λh=>?_⟩
  ·rw[if_neg h]at b;exact b
  ·split at b<;>omega
  ·rw[if_pos h]at a5;simpa using a5
  ·rw[if_pos h]at c;simpa using c
theorem ZsY{f:FlowP}(he:f.err=0){h:Zf}{K:(Option Addr×Option Addr×Unit)->Zf->Prop}(R:∀h' p O,ShR h' O p (ShS.new f)->(∀j,O j->sz h<=j/\j<sz h')->Ext h h'->K (p.1,p.2,()) h'):Zbk (Rw.ZcW f) K h:=by
  obtain⟨hs,x,J,hw,S⟩:=Zx3 he;unfold Zbk Zfr;refine ZH λh1 c1 T U=>ZH λa V L X=>ZH λh3 M B z3=>?_;have b1:sz h1=sz h+1:=U;have b2:sz a=sz h1+1:=X;have b3:sz h3=sz a+1:=z3;have d:=Zj (Zj c1 L) B;have C:=Zj V B;have y:=(T.trans L).trans B;refine ZkM (λ(_:Unit) c=>∃P:Option Addr,obj c (sz a)=some (.cells [.pointer P,.pointer none].toArray 162 (0,0))/\Ext h c/\Upd (· = sz a) h3 c/\ZxW c (λj=>sz a<j) P (ShS.new f).1) ?_ λQ N=>?_
  ·rintro _ c ⟨P,cp,ex,D,Y⟩;have e:=YW d D (by show ¬sz h=_;omega);have E:=YW C D (by show ¬sz h1=_;omega);have bx:sz h3<=sz c:=D.size
   have fin:∀{g t:Zf} {W:Option Addr},obj g (sz a)=some (.cells [.pointer P,.pointer W].toArray 162 (0,0))->Ext c t->Upd (· = sz a) t g->ZBI g (λj=>sz a<j) W (ShS.new f).2->ldP g (sz a) 0 λt28=>ldP g (sz a) (0+1) λt29=>sts g (sz h1) 0 [.pointer t28,.pointer t29] λb=>ldP b (sz h1) 0 λt31=>ldP b (sz h1) (0+1) λt32=>K (t31,t32,()) b:=by
     intro g t W u Z F hW;have A:Upd (· = sz a) c g:=(Z.upd _).trans F;refine rP (Zb u rfl) (rP (Zb u rfl) (Zaw (YW E A (by show ¬sz h1=sz a;omega)) λz v o z5=>rP (Zb v rfl) (rP (Zb v rfl) ?_)));have b4:sz c<=sz g:=A.size;have b5:sz z=sz g:=z5;refine R z (P,W) (λj=>sz a<j/\j<sz z) ⟨?_,?_⟩ (λj i=>by omega) ?_
     ·exact(Y.congr (h':=g) (O':=λj=>sz a<j/\j<sz c) (λj i hl=>⟨i,hl⟩) λj i hl=>A.old j hl (by show ¬j=sz a;have t:sz a<j:=i;omega)).congr (λj i hl=>⟨i.1,by omega⟩) λj i hl=>o.old j hl (by show ¬j=sz h1;have t:=i.1;omega)
     ·exact hW.congr (λj i hl=>⟨i,by omega⟩) λj i hl=>o.old j hl (by show ¬j=sz h1;have t:sz a<j:=i;omega)
     ·exact(ex.then A λk l=>by rw[l];show sz h<=sz a;omega).then o λk l=>by rw[l];show sz h<=sz h1;omega
   have m:f.shape=1\/f.shape=3->ZfV f.cnt f.warm (λt24 t25 G=>st G (sz a) (0+1) (.pointer t24) λr=>ldP r (sz a) 0 λt28=>ldP r (sz a) (0+1) λt29=>sts r (sz h1) 0 [.pointer t28,.pointer t29] λb=>ldP b (sz h1) 0 λt31=>ldP b (sz h1) (0+1) λt32=>K (t31,t32,()) b) c:=λq=>by
     refine ZyA ⟨x (by omega),J.2⟩ (hw q) λg u w z4=>Zbs (Zj cp w) (show 0+1<2 by decide) rfl λz v o z5=>?_
     exact fin v w o (by
       show ZBI _ _ _ (if _ then _ else _);rw[if_pos q]
       exact⟨sz c,rfl,YW u o (by show ¬sz c=sz a;omega),by show sz a<sz c;omega⟩)
   have hn:¬(f.shape=1\/f.shape=3)->ldP c (sz a) 0 λt28=>ldP c (sz a) (0+1) λt29=>sts c (sz h1) 0 [.pointer t28,.pointer t29] λb=>ldP b (sz h1) 0 λt31=>ldP b (sz h1) (0+1) λt32=>K (t31,t32,()) b:=λq=>fin cp (Ext.refl _) (Upd.refl _ _) (by
       show ZBI _ _ _ (if _ then _ else _);rw[if_neg q]
       exact rfl)
   refine rI (Zb e rfl) (Z0 (λq=>rI (Zb e rfl) (rI (Zb e rfl) (m (.inl (by have:(f.shape:Int)=1:=q;omega))))) λq=>rI (Zb e rfl) (Z0 (λs=>rI (Zb e rfl) (rI (Zb e rfl) (m (.inr ?_)))) λs=>hn ?_))
   ·have:(f.shape:Int)=3:=s;omega
   ·have h1:¬(f.shape:Int)=1:=q;have h3:¬(f.shape:Int)=3:=s;omega
  ·have n:f.shape=2\/f.shape=3->ZfY f.cnt f.queue (λt9 t10 H=>st H (sz a) 0 (.pointer t9) λI=>Q () I) h3:=λq=>by
     refine ZyE ⟨x (by omega),J.2⟩ (S q) λg u w z4=>Zbs (Zj M w) (show 0<2 by decide) rfl λz v o z5=>N _ _ ⟨some ⟨sz h3,0,none⟩,v,(y.trans w).then o λk l=>?_,?_,?_⟩
     ·rw[l];show sz h<=sz a;omega
     ·exact(w.upd _).trans o
     ·show ZxW _ _ _ (if _ then _ else _);rw[if_pos q];exact⟨sz h3,rfl,YW u o (by show ¬sz h3=sz a;omega),by show sz a<sz h3;omega⟩
   refine rI (Zb d rfl) (Z0 (λq=>rI (Zb d rfl) (rI (Zb d rfl) (n (.inl ?_)))) λq=>rI (Zb d rfl) (Z0 (λs=>rI (Zb d rfl) (rI (Zb d rfl) (n (.inr ?_)))) λs=>N _ _ ⟨none,M,y,Upd.refl _ _,?_⟩))
   ·have:(f.shape:Int)=2:=q;omega
   ·have:(f.shape:Int)=3:=s;omega
   ·have h1:¬(f.shape:Int)=2:=q;have h3:¬(f.shape:Int)=3:=s;show ZxW _ _ _ (if _ then _ else _);rw[if_neg (by omega)];exact rfl
end Go.Proofs.YtonbfpnngkemiaaGreat
