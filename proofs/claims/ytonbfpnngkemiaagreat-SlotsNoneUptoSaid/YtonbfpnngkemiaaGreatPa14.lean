/- The rules' laws, carved from the rulejson texts (tools/carvedep.py). -/
import Derived.Test.YtonbfpnngkemiaaGreatPa13
set_option linter.unusedVariables false
set_option linter.unusedSimpArgs false
namespace Go.Js
abbrev Zu(l:List UInt8):ByteArray:=⟨l.toArray⟩
end Go.Js
namespace Go.Js
open Go Go.Fw Go.Js
abbrev BL:=List UInt8
end Go.Js
namespace Go.Js.JL
open Go Go.Fw Go.Js
end Go.Js.JL
namespace Go.Js
open Go Go.Fw Go.Js
end Go.Js
namespace Go.Proofs.YtonbfpnngkemiaaGreat.Rw
open Go Go.Fw Go.Js
theorem ZF{h:Zf}{cells:List Value}{t:TypeId}{K:Nat->Zf->Prop}(a:∀h1,h1[h.size]?=some (.cells cells.toArray t (0,0))->Ext h h1->h1.size=h.size+1->K h.size h1):newC h cells t K:=
  Zpx (a _ Zdi (Ext.push _ _) (by simp))
theorem Zi{b o:Nat}{K:Nat->Nat->Prop}(a:K b o):Ze (some ⟨b,o,none⟩) K:=⟨b,o,rfl,a⟩
theorem Zb{h:Zf}{b o:Nat}{l:List Value}{e:TypeId}{f:Nat×Nat}{v:Value}(a:obj h b=some (.cells l.toArray e f))(hv:l[o]?=some v):Zy o (obj h b)=some v:=by rw[a,Zdj];exact hv
theorem rI{h:Zf}{b o:Nat}{k:IntKind}{n:Int}{K:Int->Prop}(a:Zy o (obj h b)=some (.int k n))(c:K n):ldI h b o k K:=by rw[ZB5 a];exact c
theorem rS{h:Zf}{b o:Nat}{n:ByteArray}{K:ByteArray->Prop}(a:Zy o (obj h b)=some (.string n))(c:K n):ldS h b o K:=by rw[ZB3 a];exact c
theorem rL{h:Zf}{b o:Nat}{s:Sl}{K:Sl->Prop}(a:Zy o (obj h b)=some (slV s))(c:K s):ldL h b o K:=by cases s;exact(ZB4 a).mpr c
theorem ZcS{h:Zf}{b o:Nat}{v:Value}{K:Zf->Prop}{l:List Value}{e:TypeId}(a:obj h b=some (.cells l.toArray e (0,0)))(ho:o<l.length)(hv:Zs v=true)
    (c:∀h',obj h' b=some (.cells (l.set o v).toArray e (0,0))->Upd (· = b) h h'->sz h'=sz h->K h'):st h b o v K:=by
  refine⟨⟨l[o],by rw[ZkI a];simp[ho]⟩,?_,hv,?_⟩
  ·unfold Zf.froz;rw[show h[b]?=obj h b from rfl,a];simp
  ·refine c _ ?_ (Upd.put h b o v) Zky;have:=ZnG (v:=v) (o:=o) a;rw[show obj (h.put b o v) b=(h.put b o v)[b]? from rfl,this];simp
structure ZtY(s:ByteArray)(n:Nat)(l:BL):Prop where
  drop:s.data.toList.drop n=l
  len:n+l.length=s.size
theorem ZtY.head{s:ByteArray}{n:Nat}{c:UInt8}{l:BL}(h:ZtY s n (c::l)):s[n]?=some c:=by
  have h1:s.data.toList[n]?=some c:=by
    have:=congrArg (λx=>x[0]?) h.drop;simp only[Aqg]at this;simpa using this
  have a:n<s.size:=by have:=h.len;simp at this;omega
  rw[Axp]at h1;rw[getElem?_pos s n a];rw[getElem?_pos s.data n a]at h1;exact h1
theorem ZtY.dropK{s:ByteArray}{n:Nat}{l:BL}(h:ZtY s n l){k:Nat}(a:k<=l.length):ZtY s (n+k) (l.drop k):=by refine⟨?_,by have:=h.len;simp;omega⟩;rw[<-h.drop,Axn]
abbrev At(R:Nat):Option Addr:=some ⟨R,0,none⟩
theorem UT{S T:Nat->Prop}{h0 h h':Zf}(a:Upd S h0 h)(u:Upd T h h')(hT:∀k,T k->S k\/sz h0<=k):Upd S h0 h':=
  ⟨Aqp a.size u.size,λk b hs=>(u.old k (Aqq b a.size) λt=>(hT k t).elim hs λc=>by have:sz h0=h0.size:=rfl;omega).trans (a.old k b hs)⟩
theorem UN{T:Nat->Prop}{h h1 h':Zf}(e:Ext h h1)(u:Upd T h1 h'):Upd T h h':=UT (e.upd T) u λ_ t=>.inl t
theorem Zq1{a b:Int}{A B:Prop}(h1:a≠b->A)(c:a=b->B):Zk (a !=b) A B:=⟨λe=>h1 (by simpa using e),λe=>c (by simpa using e)⟩
theorem ZhX{a b:Int}{A B:Prop}(h1:a=b->A)(c:a≠b->B):Zk (a==b) A B:=⟨λe=>h1 (by simpa using e),λe=>c (by simpa using e)⟩
end Go.Proofs.YtonbfpnngkemiaaGreat.Rw
namespace Go.Js
open Go Go.Fw Go.Js
end Go.Js
namespace Go.Proofs.YtonbfpnngkemiaaGreat.Rw
open Go Go.Fw Go.Js
theorem Zhe(a b:ByteArray):Z2 a b=decide (a=b):=by
  unfold Z2;rw[ByteArray.toList_eq,ByteArray.toList_eq]
  by_cases h:a=b
  ·rw[h];simp
  ·rw[decide_eq_false h,beq_eq_false_iff_ne];intro e;exact h (ByteArray.ext (Array.toList_inj.1 e))
theorem ZDZ(l:BL):(Zu l).size=l.length:=rfl
abbrev sV(t:BL):Value:=.string (Zu t)
def inS(S:Nat->Prop)(x:Sl):Prop:=x.len≠0->∀b,x.blk=some b->S b
theorem inS.mono{S a:Nat->Prop}{x:Sl}(h:inS S x)(hs:∀b,S b->a b):inS a x:=λhl b c=>hs b (h hl b c)
theorem ZiP{h h':Zf}{S:Nat->Prop}{x:Sl}{n:Nat}{vs:List Value}(c:Row h x n vs)(hi:inS S x)(he:∀b,S b->b<sz h->obj h' b=obj h b):Row h' x n vs:=by refine c.congr λb o d a e=>he b (hi ?_ b (by simp[Sl.blk,d])) e;intro h0;exact a (c.nil_of h0)
theorem ZGX{h:Zf}{b n size:Nat}{l:List Value}{t:TypeId}{f:Nat×Nat}{K:List Value->Prop}(c:obj h b=some (.cells l.toArray t f))(hl:l.length=n*size)(a:K l):rdS ⟨some ⟨b,0,none⟩,n,n⟩ size h K:=
  .inr ⟨b,0,l,rfl,hl,Zgu c (λi v hi=>by simpa using hi),a⟩
theorem ZOI{h:Zf}{b o:Nat}{vs:List Value}{K:Zf->Prop}{l:List Value}{e:TypeId}(a:obj h b=some (.cells l.toArray e (0,0)))(ho:o+vs.length<=l.length)(hv:vs.all Zs=true)
    (c:∀h',obj h' b=some (.cells (Ze9 o vs l).toArray e (0,0))->Upd (· = b) h h'->sz h'=sz h->K h'):sts h b o vs K:=by
  rw[Zph (by rw[a,Zjn];simpa using ho) hv];exact c _ (by rw[ZlC,if_pos rfl,a,ZeO]) (Upd.puts h b o vs) ZiN
end Go.Proofs.YtonbfpnngkemiaaGreat.Rw
namespace Go.Js.JL
open Go Go.Fw Go.Js
end Go.Js.JL
namespace Go.Proofs.YtonbfpnngkemiaaGreat.Rw
open Go Go.Fw Go.Js
theorem Ztz{h:Zf}{a:List BL}{x:Sl}(c:Row h x 1 (a.map sV)){i:Nat}{t:BL}(d:a[i]?=some t){n:Int}(e:n=i){K:ByteArray->Prop}(f:K (Zu t)):Yk x.ptr x.len n 1 λb o=>ldS h b o K:=
  Row.idx c e (v:=sV t) (by simp[d]) λb o _ g=>⟨_,g,f⟩
theorem ZlG{h:Zf}{a:List BL}{x:Sl}(b:Row h x 1 (a.map sV)):x.len=a.length:=by have:=b.len;simp at this;omega
theorem ZyK{a b:BL}:Zu a=Zu b↔a=b:=by
  constructor
  ·intro h;have:=congrArg (λb:ByteArray=>b.data.toList) h;simpa[Zu]using this
  ·rintro rfl;rfl
theorem Zhf(a b:BL):Z2 (Zu a) (Zu b)=decide (a=b):=by rw[Zhe];exact decide_eq_decide.2 ZyK
theorem rV{h:Zf}{b o:Nat}{n:Value}{K:Value->Prop}(a:Zy o (obj h b)=some n)(c:K n):ldV h b o K:=by rw[ZB2 a];exact c
theorem Zlv{h:Zf}{x:Sl}{n:Nat}{vs:List Value}(c:Row h x n vs)(i:0<n):inS (λb=>b<sz h) x:=by
  intro h0 b a
  rcases c.at_ with hz|⟨d,o,f,g⟩
  ·exact absurd hz h0
  ·have:d=b:=by unfold Sl.blk at a;rw[f]at a;simpa using a
   subst this;refine Zyl g λe=>?_;have hl:=c.len;rw[e]at hl;have:x.len*n≠0:=Nat.mul_ne_zero h0 (by omega);exact this (by rw[<-hl];rfl)
theorem ZBh{α:Type}{l:List α}{i:Nat}{x:α}(h:l[i]?=some x):i<l.length:=(Ayh.1 h).1
theorem Zmy{α:Type}{f:α->List Value}{n:Nat}(b:∀a,(f a).length=n):∀l:List α,(l.flatMap f).length=l.length*n
  |[]=>by simp
  |a::l=>by rw[Aye,Awe,b,Zmy b l,Aqj,Aww];omega
theorem Zok{α:Type}{f:α->List Value}{n:Nat}(b:∀a,(f a).length=n):∀(l:List α) (i m:Nat) (a:α),l[i]?=some a->m<n->(l.flatMap f)[i*n+m]?=(f a)[m]?
  |[],i,m,a,h,_=>by simp at h
  | x::l,0,m,a,h,hm=>by
    simp at h;subst h;rw[Aye,Aqs,Awb,Awu (by rw[b];exact hm)]
  | x::l,i+1,m,a,h,hm=>by
    rw[Aye,Awv (by rw[b,Aww];omega),b,show(i+1)*n+m- n=i*n+m by rw[Aww];omega];exact Zok b l i m a (by simpa using h) hm
end Go.Proofs.YtonbfpnngkemiaaGreat.Rw
namespace Go.Js
open Go Go.Fw Go.Js
def ZlL(t:BL):List BL->Nat->Option Nat
  |[],_=>none
  |w::ws,i=>if w=t then some i else ZlL t ws (i+1)
end Go.Js
namespace Go.Proofs.YtonbfpnngkemiaaGreat.Rw
open Go Go.Fw Go.Js
theorem ZHA(t:BL):∀(ws:List BL) (i j:Nat),ZlL t (ws.drop j) (i+j)=match ws.drop j with
    |[]=>none
    |w::_=>if w=t then some (i+j)else ZlL t (ws.drop (j+1)) (i+(j+1)):=by
  intro ws i j
  cases hd:ws.drop j with
  |nil=>rfl
  | cons w r=>
    have e:ws.drop (j+1)=r:=by rw[<-Axn,hd];rfl
    simp only[ZlL,e];rfl
theorem ZBg{h:Zf}{ws:List BL}{x:Sl}(a:Row h x 1 (ws.map sV)){t:BL}{K:Int->HP}(b:K (match ZlL t ws 0 with
    |some i=>(i:Int)
    |none=> -1) h):Xi x (Zu t) K h:=by
  unfold Xi;have hlen:=ZlG a;have big:=a.big;have cap:=a.cap;refine Za (YL (λp h'=>h'=h/\∃i:Nat,p.1=i/\i<=ws.length/\ZlL t ws 0=ZlL t (ws.drop i) (0+i)) (λp _=>(ws.length- p.1).toNat) ⟨rfl,0,rfl,Ayg _,rfl⟩ ?_);rintro⟨i0,u⟩ h3 ⟨rfl,i,hi,hle,d⟩;dsimp only at hi⊢;subst hi;refine Zn (λf=>?_) λg=>?_
  ·have hi:i<ws.length:=by omega
   obtain⟨w,hw⟩:∃w,ws[i]?=some w:=⟨ws[i],Axy hi⟩;refine Za (Ztz a hw rfl ?_);have hd:ws.drop i=w::ws.drop (i+1):=by rw[Ayo hi];congr 1;exact(Ayh.1 hw).2
   rw[Zhf];have c:=ZHA t ws 0 i;rw[hd]at c;simp only at c
   by_cases he:t=w
   ·rw[decide_eq_true he];refine Zm rfl (Za ?_);rw[d,hd,c,if_pos he.symm]at b;simpa using b
   ·rw[decide_eq_false he];refine Zh rfl ?_;rw[Yw (by omega) (by omega)];refine⟨⟨rfl,i+1,rfl,by omega,?_⟩,by omega⟩;rw[d,hd,c,if_neg λe=>he e.symm]
  ·refine Za ?_
   have:i=ws.length:=by omega
   subst this;rw[d,List.drop_length]at b;exact b
theorem Zyi{h:Zf}{ws:List BL}{x:Sl}(a:Row h x 1 (ws.map sV)){t:BL}{K:Int->HP}(b:K (match ZlL t ws 0 with
    |some i=>(i:Int)
    |none=> -1) h):X8 x (Zu t) K h:=ZBg a b
theorem Zsc{t:BL}:∀{ws:List BL} {i:Nat},(ZlL t ws i).isSome=true↔t∈ws
  |[],i=>by simp[ZlL]
  | w::ws,i=>by
    simp only[ZlL];split
    ·rename_i h;simp[h]
    ·rename_i h;rw[Zsc,Awr];exact⟨.inr,λa=>a.resolve_left λe=>h e.symm⟩
theorem Zop{h:Zf}{ws:List BL}{x:Sl}(b:Row h x 1 (ws.map sV)){t:BL}{K:Bool->HP}(c:K (decide (t∈ws)) h):Yz x (Zu t) K h:=by
  unfold Yz XD;refine Zyi b ?_
  show Zq (decide ((match ZlL t ws 0 with
    |some i=>(i:Int)
    |none=> -1)>=0)) λt2=>K t2 h
  have:decide ((match ZlL t ws 0 with
    |some i=>(i:Int)
    |none=> -1)>=0)=decide (t∈ws):=by
    have hm:=Zsc (t:=t) (ws:=ws) (i:=0)
    cases a:ZlL t ws 0 with
    |none=>rw[a]at hm;simp only[Awf,Aqc,false_iff]at hm;simp[hm]
    |some i=>rw[a]at hm;simp only[Option.isSome_some,true_iff]at hm;simp[hm]
  rw[this];exact c
def Zds(l:List (BL×Int)):List Value:=l.flatMap λp=>[sV p.1,iv p.2]
def Box(h:Zf)(c:Nat)(v:Value):Prop:=∃T,obj h c=some (.cells [v].toArray T (0,0))
theorem Box.ext{h h':Zf}{c:Nat}{v:Value}(b:Box h c v)(u:Ext h h'):Box h' c v:=let⟨T,b⟩:=b;⟨T,Zj b u⟩
theorem Box.lt{h:Zf}{c:Nat}{v:Value}(b:Box h c v):c<sz h:=let⟨_,b⟩:=b;Zp b
theorem Box.upd{U:Nat->Prop}{h h':Zf}{c:Nat}{v:Value}(b:Box h c v)(u:Upd U h h')(a:¬U c):Box h' c v:=let⟨T,b⟩:=b;⟨T,Y0 b u a⟩
end Go.Proofs.YtonbfpnngkemiaaGreat.Rw
namespace Go.Js
open Go Go.Fw Go.Js
structure FlowP where
  (res org:BL) (thr:Bool) (cnt:Int) (strat:Nat) (ref:BL) (shape:Nat) (warm queue:Int) (clu:Bool) (id:Int) (fb:Bool)
deriving DecidableEq
structure YK where
  (res:BL) (grade:Nat) (cnt slow least window recover:Int)
deriving DecidableEq
structure ZdX where
  (res:BL) (index cnt secs:Int) (items:List (BL×Int))
deriving DecidableEq
structure Zas where
  (qps threads rt load cpu:Int)
deriving DecidableEq
structure Zbi where
  (res:BL) (white:Bool) (origins:List BL)
deriving DecidableEq
structure RulesP where
  (fl:List FlowP) (br:List YK) (ho:List ZdX) (sy:List Zas) (li:List Zbi)
deriving DecidableEq
def ZEi(c:UInt8):Bool:=decide (33<=c.toNat)&&decide (c.toNat<=126)
def Zb9(l:BL):Bool:=l.all ZEi&&(decide (1<=l.length)&&decide (l.length<=64))
def inJ(n lo hi:Int):Bool:=decide (lo<=n)&&decide (n<=hi)
def onlyIf(asked:Bool)(n lo hi:Int):Bool:=if asked then inJ n lo hi else decide (n=0)
def Ziu:List BL->Bool
  |[]=>false
  |a::l=>decide (a∈l)||Ziu l
def FlowP.names(f:FlowP):Bool:=Zb9 f.res&&Zb9 f.org&&(if f.strat=1\/f.strat=2 then Zb9 f.ref else true)
def FlowP.good(f:FlowP):Bool:=
  inJ f.cnt (if f.shape=0 then 0 else 1) 1099511627776&&(decide (f.strat<=2)&&decide (f.shape<=3))&&(!decide (f.strat=0)||decide (f.ref=[]))&&(!f.thr||decide (f.shape=0) && !f.clu) &&
  (onlyIf (decide (f.shape=1)||decide (f.shape=3)) f.warm 1 3600&&onlyIf (decide (f.shape=2)||decide (f.shape=3)) f.queue 0 3600000000) &&
  (!f.clu||decide (f.strat=0)&&decide (f.shape=0))&&(onlyIf f.clu f.id 1 1099511627776&&(f.clu|| !f.fb))
def FlowP.err(f:FlowP):Nat:=if f.names then(if f.good then 0 else 30)else 10
def YK.good(b:YK):Bool:=
  (decide (b.grade<=2)&&inJ b.cnt 0 (if b.grade=2 then 1099511627776 else 1000))&&onlyIf (decide (b.grade=0)) b.slow 1 3600000000 &&
  (inJ b.least 1 1099511627776&&inJ b.window 1000000 120000000)&&inJ b.recover 1000000 3600000000
def YK.err(b:YK):Nat:=if Zb9 b.res then(if b.good then 0 else 31)else 10
def ZdX.good(b:ZdX):Bool:=
  (inJ b.index 0 7&&inJ b.cnt 0 1099511627776)&&(inJ b.secs 1 60&&decide (b.items.length<=32) && !Ziu (b.items.map (·.1)))&&b.items.all λp=>decide (p.1.length<=64)&&inJ p.2 0 1099511627776
def ZdX.err(b:ZdX):Nat:=if Zb9 b.res then(if b.good then 0 else 32)else 10
def Zas.err(b:Zas):Nat:=if inJ b.qps (-1) 1099511627776&&inJ b.threads (-1) 1099511627776&&inJ b.rt (-1) 1099511627776&&inJ b.load (-1) 1099511627776&&inJ b.cpu (-1) 1099511627776 then 0 else 33
def Zbi.err(b:Zbi):Nat:=if Zb9 b.res&&b.origins.all Zb9 then(if decide (1<=b.origins.length)&&decide (b.origins.length<=32) && !Ziu b.origins then 0 else 34)else 10
def Zbh{α:Type}(f:α->Nat):List α->Nat->Option (Nat×Nat)
  |[],_=>none
  |a::l,i=>if f a=0 then Zbh f l (i+1)else some (i,f a)
def RulesP.whereE(r:RulesP):Nat×Nat×Nat:=
  if 256<r.fl.length then(1,0,5)else if 256<r.br.length then(2,0,5)else if 256<r.ho.length then(3,0,5)else if 256<r.sy.length then(4,0,5)else if 256<r.li.length then(5,0,5)else
  match Zbh FlowP.err r.fl 0 with
  |some (i,e)=>(1,i,e)
  | none=>match Zbh YK.err r.br 0 with
    |some (i,e)=>(2,i,e)
    | none=>match Zbh ZdX.err r.ho 0 with
      |some (i,e)=>(3,i,e)
      | none=>match Zbh Zas.err r.sy 0 with
        |some (i,e)=>(4,i,e)
        | none=>match Zbh Zbi.err r.li 0 with
          |some (i,e)=>(5,i,e)
          |none=>(0,0,0)
end Go.Js
namespace Go.Proofs.YtonbfpnngkemiaaGreat.Rw
open Go Go.Fw Go.Js
def i8(n:Nat):Value:=.int .u8 (n:Int)
def i64(n:Int):Value:=iv n
def ZcR(f:FlowP):List Value:=[sV f.res,sV f.org,.bool f.thr,i64 f.cnt,i8 f.strat,sV f.ref,i8 f.shape,i64 f.warm,i64 f.queue,.bool f.clu,i64 f.id,.bool f.fb]
def ZbN(f:YK):List Value:=[sV f.res,i8 f.grade,i64 f.cnt,i64 f.slow,i64 f.least,i64 f.window,i64 f.recover]
def ZdB(f:Zas):List Value:=[i64 f.qps,i64 f.threads,i64 f.rt,i64 f.load,i64 f.cpu]
def ZjI(p:Sl×ZdX):List Value:=[sV p.2.res,i64 p.2.index,i64 p.2.cnt,i64 p.2.secs,slV p.1]
def Zhp(p:Sl×Zbi):List Value:=[sV p.2.res,.bool p.2.white,slV p.1]
def ZIF(h:Zf)(S:Nat->Prop)(p:Sl×ZdX):Prop:=Row h p.1 2 (Zds p.2.items)/\inS S p.1
def Zy8(h:Zf)(S:Nat->Prop)(p:Sl×Zbi):Prop:=Row h p.1 1 (p.2.origins.map sV)/\inS S p.1
abbrev VTR:=Sl×Sl×Sl×Sl×Sl×Unit
structure Yn(h:Zf)(S:Nat->Prop)(z:VTR)(r:RulesP):Prop where
  fl:Row h z.1 12 (r.fl.flatMap ZcR)/\inS S z.1
  br:Row h z.2.1 7 (r.br.flatMap ZbN)/\inS S z.2.1
  ho:∃hp:List (Sl×ZdX),hp.map (·.2)=r.ho/\(Row h z.2.2.1 5 (hp.flatMap ZjI)/\inS S z.2.2.1)/\∀p,p∈hp->ZIF h S p
  sy:Row h z.2.2.2.1 5 (r.sy.flatMap ZdB)/\inS S z.2.2.2.1
  li:∃lp:List (Sl×Zbi),lp.map (·.2)=r.li/\(Row h z.2.2.2.2.1 3 (lp.flatMap Zhp)/\inS S z.2.2.2.2.1)/\∀p,p∈lp->Zy8 h S p
theorem ZiZ{h h':Zf}{S:Nat->Prop}{x:Sl}{n:Nat}{vs:List Value}(r:Row h x n vs/\inS S x)(he:∀b,S b->b<sz h->obj h' b=obj h b):Row h' x n vs/\inS S x:=⟨ZiP r.1 r.2 he,r.2⟩
theorem Yn.keep{h h':Zf}{S:Nat->Prop}{z:VTR}{r:RulesP}(a:Yn h S z r)(he:∀b,S b->b<sz h->obj h' b=obj h b):Yn h' S z r:=by obtain⟨c,h1,d,h3⟩:=a.ho;obtain⟨e,f,g,i⟩:=a.li;exact⟨ZiZ a.fl he,ZiZ a.br he,⟨c,h1,ZiZ d he,λp c=>ZiZ (h3 p c) he⟩,ZiZ a.sy he,⟨e,f,ZiZ g he,λp c=>ZiZ (i p c) he⟩⟩
theorem Yn.ext{h h':Zf}{S:Nat->Prop}{z:VTR}{r:RulesP}(a:Yn h S z r)(u:Ext h h'):Yn h' S z r:=a.keep λb _ hl=>ZQ u hl
theorem Yn.mono{h:Zf}{S d:Nat->Prop}{z:VTR}{r:RulesP}(a:Yn h S z r)(hs:∀b,b<sz h->S b->d b):Yn h d z r:=by obtain⟨c,h1,f,h3⟩:=a.ho;obtain⟨g,i,j,k⟩:=a.li;have m:∀{x:Sl} {n:Nat} {vs:List Value},0<n->Row h x n vs/\inS S x->Row h x n vs/\inS d x:=λ{x n vs} l r=>⟨r.1,λh0 b e=>hs b (Zlv r.1 l h0 b e) (r.2 h0 b e)⟩;exact⟨m (by decide) a.fl,m (by decide) a.br,⟨c,h1,m (by decide) f,λp c=>m (by decide) (h3 p c)⟩,m (by decide) a.sy,⟨g,i,m (by decide) j,λp c=>m (by decide) (k p c)⟩⟩
theorem rBl{h:Zf}{b o:Nat}{n:Bool}{K:Bool->Prop}(a:Zy o (obj h b)=some (.bool n))(c:K n):ldB h b o K:=by unfold ldB;exact⟨n,by rw[Yg];exact a,c⟩
def ZaL(f:FlowP):ByteArray×ByteArray×Bool×Int×Int×ByteArray×Int×Int×Int×Bool×Int×Bool×Unit:=(Zu f.res,Zu f.org,f.thr,f.cnt,(f.strat:Int),Zu f.ref,(f.shape:Int),f.warm,f.queue,f.clu,f.id,f.fb,())
def ZCf(f:YK):ByteArray×Int×Int×Int×Int×Int×Int×Unit:=(Zu f.res,(f.grade:Int),f.cnt,f.slow,f.least,f.window,f.recover,())
def ZFy(x:Sl)(f:ZdX):ByteArray×Int×Int×Int×Sl×Unit:=(Zu f.res,f.index,f.cnt,f.secs,x,())
def Zqv(f:Zas):Int×Int×Int×Int×Int×Unit:=(f.qps,f.threads,f.rt,f.load,f.cpu,())
def ZHj(x:Sl)(f:Zbi):ByteArray×Bool×Sl×Unit:=(Zu f.res,f.white,x,())
theorem Zus{h:Zf}{base n bytes:Nat}{out:Sl}{vs cells zs:List Value}{T T2:TypeId}{K:Sl->Zf->Prop}(own:Own h base out n vs)(j:cells.length=n)(h1:cells.all Zs=true)(hz:zs.length=n)(d:(out.len+1)*bytes<=140737488355328)(hl:out.len+1<=140737488355328)(e:base<=sz h)
    (g:∀s' h',Own h' base s' n (vs++cells)->Upd (λk=>out.blk=some k) h h'->(s'.blk=out.blk\/∃b,s'.blk=some b/\sz h<=b)->K s' h'):
    newC h cells T2 λb a=>rdS ⟨some ⟨b,0,none⟩,1,1⟩ n a λnew=>app T n bytes zs out 1 new a K:=by
  refine ZF λa i f l=>ZGX i (by omega) ?_;have s2:sz a=a.size:=rfl;have s1:sz h=h.size:=rfl;refine(own.congr λb _ d _=>ZQ f d).app (by omega) h1 hz d hl (show base<=a.size by omega) λs' h' o _ u c=>g s' h' o (UN f u) ?_
  rcases c with c|c
  ·exact .inl c
  ·exact .inr ⟨_,c,by omega⟩
end Go.Proofs.YtonbfpnngkemiaaGreat.Rw
namespace Go.Js
open Go Go.Fw Go.Js
theorem Zr1{l:List BL}:Ziu l=false↔l.Nodup:=by
  induction l with
  |nil=>simp[Ziu]
  |cons a l b=>simp[Ziu,Ayp,b]
end Go.Js
namespace Go.Proofs.YtonbfpnngkemiaaGreat.Rw
open Go Go.Fw Go.Js
section
variable{h:Zf}
theorem YU{n lo hi:Int}{K:Bool->HP}(a:K (decide (lo<=n)&&decide (n<=hi)) h):Yl n lo hi K h:=by
  unfold Yl Zgb;refine Zn (λh1=>Zd ?_) λh1=>?_
  ·rw[decide_eq_true (p:=lo<=n) (by omega),Aqa]at a;exact a
  ·rw[decide_eq_false (p:=lo<=n) (by omega),Aqb]at a;exact a
theorem ZAV{l:BL}{k:Nat}(a:k<=l.length):ZtY (Zu l) k (l.drop k):=by have:ZtY (Zu l) 0 l:=⟨rfl,by rw[ZDZ];omega⟩;have:=this.dropK a;rwa[Awb]at this
theorem Zn4{l:BL}(hl:l.length<9223372036854775807){K:Bool->HP}(b:K (Zb9 l) h):Zat (Zu l) K h:=by
  unfold Zat Zgd;have hs:(Zu l).size=l.length:=rfl;refine YL (λp h'=>h'=h/\∃i:Nat,p.1=i/\i<=l.length/\(l.take i).all ZEi=true) (λp _=>l.length- p.1.toNat) ⟨rfl,0,rfl,Ayg _,rfl⟩ ?_;rintro⟨o,u⟩ q ⟨rfl,i,hi,g,c⟩;dsimp only at hi⊢;subst hi;refine Zn (λj=>Za ?_) λm=>?_
  ·have a:i<l.length:=by omega
   have n:ZtY (Zu l) i (l[i]::l.drop (i+1)):=by
     have:=ZAV (l:=l) (k:=i) (by omega);rwa[Ayo a]at this
   refine⟨l[i],by omega,by rw[Aqu];exact n.head,YU ?_⟩;have r:=l[i].toNat_lt;rw[Yw (by omega) (by omega)]
   have e:(decide ((33:Int)<=(l[i].toNat:Int))&&decide ((l[i].toNat:Int)<=126))=ZEi l[i]:=by
     unfold ZEi;congr 1<;>(rw[decide_eq_decide];omega)
   rw[e]
   cases d:ZEi l[i]with
   | false =>
     refine Zm rfl ?_
     have:Zb9 l=false:=by
       unfold Zb9
       have:l.all ZEi=false:=by
         cases f:l.all ZEi with
         |false=>rfl
         |true=>rw[Axb]at f;have:=f _ (Ayy a);rw[d]at this;cases this
       rw[this];rfl
     rw[this]at b;exact b
   | true=>
     refine Zh rfl ?_;rw[Yw (by omega) (by omega)];refine⟨⟨rfl,i+1,rfl,by omega,?_⟩,by omega⟩;rw[Aym,Axy a,Ayr,c];simp[d]
  ·rw [Awd (by omega)]at c;refine YU (Zd ?_);unfold Zb9 at b;rw[c,Aqa]at b
   rw [show(decide ((1:Int)<=((Zu l).size:Int))&&decide (((Zu l).size:Int)<=64))=(decide (1<=l.length)&&decide (l.length<=64)) by
     rw[hs];congr 1<;>(rw[decide_eq_decide];omega)]
   exact b
theorem Zn5{nms:List BL}{nm:Sl}(a:Row h nm 1 (nms.map sV))(hlen:∀n,n∈nms->n.length<9223372036854775807){K:Int->HP}(f:∀n:Int,(0<=n↔nms.all Zb9=false)->K n h):ZI nm K h:=by
  unfold ZI Ye;have k:=ZlG a;have big:=a.big;have cap:=a.cap;refine Za (YL (λp h'=>h'=h/\∃i:Nat,p.1=i/\i<=nms.length/\(nms.take i).all Zb9=true) (λp _=>(nms.length- p.1).toNat) ⟨rfl,0,rfl,Ayg _,rfl⟩ ?_);rintro⟨q,u⟩ r ⟨rfl,i,hi,l,b⟩;dsimp only at hi⊢;subst hi;refine Zn (λm=>Za ?_) λo=>Za ?_
  ·have c:i<nms.length:=by omega
   obtain⟨t,d⟩:∃t,nms[i]?=some t:=⟨nms[i],Axy c⟩;have hm:=Axo d;refine Ztz a d rfl ?_;unfold ZcW Zde;refine Zn4 (hlen t hm) (Zd ?_)
   cases g:Zb9 t with
   | false=>
     refine Zm rfl (Za (f _ ⟨λ_=>?_,λ_=>by omega⟩))
     cases j:nms.all Zb9 with
     |false=>rfl
     |true=>rw[Axb]at j;have:=j _ hm;rw[g]at this;cases this
   | true=>
     refine Zh rfl ?_;rw[Yw (by omega) (by omega)];refine⟨⟨rfl,i+1,rfl,by omega,?_⟩,by omega⟩;rw[Aym,d,Ayr,b];simp[g]
  ·rw[Awd (by omega)]at b;exact f _ ⟨λh0=>by omega,λe=>by rw[b]at e;cases e⟩
theorem Zv3{res:BL}(hl:res.length<9223372036854775807){nms:List BL}{nm:Sl}(e:Row h nm 1 (nms.map sV))(hlen:∀n,n∈nms->n.length<9223372036854775807){K:Bool->HP}(b:∀h',Ext h h'->K (Zb9 res&&nms.all Zb9) h'):ZaC (Zu res,nm,()) K h:=by
  unfold ZaC Zex;refine ZF λh1 c1 c f=>rS (Zb c1 rfl) (Zn4 hl ?_)
  cases a:Zb9 res with
  |false=>rw[a]at b;exact Zh rfl (b h1 c)
  | true=>
    rw[a]at b;refine Zm rfl (rL (s:=nm) (Zb c1 rfl) ?_);unfold ZW ZX;refine Zn5 (e.ext c) hlen λn a=>Zd (Zd ?_);have:=b h1 c;rw[Aqa]at this
    cases d:nms.all Zb9 with
    | true=>
      rw[d]at this a;rw[show decide (n>=0)=false by simp only[decide_eq_false_iff_not];intro h;have:=a.1 h;cases this];exact this
    | false=>
      rw[d]at this a;rw[show decide (n>=0)=true by simp only[decide_eq_true_eq];exact a.2 rfl];exact this
theorem ZlA{b:Bool}{n lo hi:Int}{K:Bool->HP}(a:K (onlyIf b n lo hi) h):ZeD b n lo hi K h:=by
  unfold ZeD Zkf
  cases b with
  | false=>
    have:onlyIf false n lo hi=(n==0):=by unfold onlyIf;rw[if_neg Bool.false_ne_true];rfl
    rw[this]at a;exact Zh rfl (Zm rfl (Zd a))
  | true=>
    have:onlyIf true n lo hi=inJ n lo hi:=if_pos rfl;rw[this]at a;refine Zm rfl (YU ?_);show Zk (inJ n lo hi) _ _
    cases c:inJ n lo hi with
    |true=>rw[c]at a;exact Zm rfl a
    |false=>rw[c]at a;exact Zh rfl (Zh rfl a)
theorem Zpd{ws:List BL}{x:Sl}(c:Row h x 1 (ws.map sV)){K:Bool->HP}(f:K (Ziu ws) h):ZeT x K h:=by
  unfold ZeT Zi7;have q:=ZlG c;have big:=c.big;have cap:=c.cap;refine YL (λp h'=>h'=h/\∃i:Nat,p.1=i/\i<=ws.length/\(ws.take i).Nodup) (λp _=>(ws.length- p.1).toNat) ⟨rfl,0,rfl,Ayg _,by simp⟩ ?_;rintro⟨y,u⟩ g ⟨rfl,i,hi,r,j⟩;dsimp only at hi⊢;subst hi;refine Zn (λs=>?_) λv=>?_
  ·have k:i<ws.length:=by omega
   obtain⟨t,o⟩:∃t,ws[i]?=some t:=⟨ws[i],Axy k⟩;refine Ztz c o rfl (Za (c.slc (a:=0) (b:=i) (m:=x.cap) rfl rfl rfl (by omega) (by omega) (by omega) (Aqo _) λs' l _ _ _=>?_));have n:Row g s' 1 ((ws.take i).map sV):=by simpa[List.map_take]using l
   refine Zop n ?_;have d:ws.take (i+1)=ws.take i++[t]:=by rw[Aym,o];rfl
   by_cases hm:t∈ws.take i
   ·rw [decide_eq_true hm]
    have:Ziu ws=true:=by
      cases w:Ziu ws with
      |true=>rfl
      | false=>
        have nd:=(List.take_sublist (i+1) ws).nodup (Zr1.1 w);rw[d,List.nodup_append]at nd;exact absurd rfl (nd.2.2 t hm t (by simp))
    rw[this]at f;exact Zm rfl f
   ·rw[decide_eq_false hm];refine Zh rfl ?_;rw[Yw (by omega) (by omega)];refine⟨⟨rfl,i+1,rfl,by omega,?_⟩,by omega⟩;rw[d,List.nodup_append];exact⟨j,by simp,λa h1 b g e=>hm (by simp at g;rw[<-g,<-e];exact h1)⟩
  ·rw[Awd (by omega)]at j;rw[Zr1.2 j]at f;exact f
def ZsU(cl:Value)(K:Bool->HP)(h:Zf):Prop:=
  (exG cl (λc:Option Addr×Option Addr×Unit=>.func (.func 261) #[] ⟨[.pointer c.1,.pointer c.2.1]⟩) λc=>Zd7 c.1 c.2.1 K h)\/(
  (exG cl (λc:Option Addr×Unit=>.func (.func 262) #[] ⟨[.pointer c.1]⟩) λc=>Zd6 c.1 K h)\/(
  (exG cl (λc:Option Addr×Unit=>.func (.func 263) #[] ⟨[.pointer c.1]⟩) λc=>Zd5 c.1 K h)\/(
  (exG cl (λc:Option Addr×Unit=>.func (.func 264) #[] ⟨[.pointer c.1]⟩) λc=>Zd4 c.1 K h)\/(
  (exG cl (λc:Option Addr×Option Addr×Option Addr×Unit=>.func (.func 265) #[] ⟨[.pointer c.1,.pointer c.2.1,.pointer c.2.2.1]⟩) λc=>Zd3 c.1 c.2.1 c.2.2.1 K h)\/(
  (exG cl (λc:Option Addr×Unit=>.func (.func 266) #[] ⟨[.pointer c.1]⟩) λc=>Zd2 c.1 K h)\/(
  (exG cl (λc:Option Addr×Unit=>.func (.func 267) #[] ⟨[.pointer c.1]⟩) λc=>Zd1 c.1 K h)\/(
  (exG cl (λc:Option Addr×Option Addr×Unit=>.func (.func 205) #[] ⟨[.pointer c.1,.pointer c.2.1]⟩) λc=>Zc0 c.1 c.2.1 K h)\/(
  (exG cl (λc:Option Addr×Unit=>.func (.func 206) #[] ⟨[.pointer c.1]⟩) λc=>ZcZ c.1 K h)\/(
  (exG cl (λc:Option Addr×Unit=>.func (.func 208) #[] ⟨[.pointer c.1]⟩) λc=>ZcY c.1 K h)\/(
  (exG cl (λc:Option Addr×Unit=>.func (.func 209) #[] ⟨[.pointer c.1]⟩) λc=>ZcX c.1 K h)\/(
  (exG cl (λc:Option Addr×Unit=>.func (.func 212) #[] ⟨[.pointer c.1]⟩) λc=>ZeX c.1 K h)\/(
  (exG cl (λc:Option Addr×Option Addr×Unit=>.func (.func 213) #[] ⟨[.pointer c.1,.pointer c.2.1]⟩) λc=>ZeW c.1 c.2.1 K h)\/(
  (exG cl (λc:Option Addr×Unit=>.func (.func 215) #[] ⟨[.pointer c.1]⟩) λc=>ZeV c.1 K h)\/(
  (exG cl (λc:Option Addr×Unit=>.func (.func 238) #[] ⟨[.pointer c.1]⟩) λc=>Zd0 c.1 K h)\/False))))))))))))))
theorem ZGH{vs:List Value}{x:Sl}(a:Row h x 1 vs){i:Nat}{v:Value}(hv:vs[i]?=some v){n:Int}(c:n=i){K:Value->Prop}(d:K v):Yk x.ptr x.len n 1 λb o=>ldV h b o K:=
  Row.idx a c hv λb o _ e=>⟨_,e,d⟩
theorem ZqP{res:BL}(hl:res.length<9223372036854775807){nms:List BL}{nm:Sl}(z:Row h nm 1 (nms.map sV))(hlen:∀n,n∈nms->n.length<9223372036854775807){e:Nat}{r:Int}(he:r=e){all:Sl}{cls:List (Value×Bool)}(g:Row h all 1 (cls.map (·.1)))
    (A:∀p,p∈cls->∀{h':Zf} {K:Bool->HP},Ext h h'->(∀h'',Ext h' h''->K p.2 h'')->ZsU p.1 K h') {K:Int->HP}
    (k:∀h' (n:Nat),n=(if Zb9 res&&nms.all Zb9 then(if cls.all (·.2)then 0 else e)else 10)->Ext h h'->K n h'):ZaD (Zu res,nm,r,()) all K h:=by
  subst he;unfold ZaD Zht;have l:all.len=cls.length:=by have:=g.len;simp at this;omega
  have big:=g.big;have cap:=g.cap;refine ZF λh1 c1 t H=>Za (rS (Zb c1 rfl) (rL (s:=nm) (Zb c1 rfl) (Zv3 hl (z.ext t) hlen λw x=>?_)));have B:=Zj c1 x;have c:=t.trans x
  cases m:(Zb9 res&&nms.all Zb9)with
  |false=>exact Zm rfl (Za (k w 10 (by rw[m];rfl) c))
  | true =>
    refine Zh rfl (YL (λp h'=>Ext w h'/\∃i:Nat,p.1=i/\i<=cls.length/\(cls.take i).all (·.2)=true) (λp _=>(cls.length- p.1).toNat) ⟨Ext.refl _,0,rfl,Ayg _,rfl⟩ ?_);rintro⟨I,u⟩ h3 ⟨a,i,hi,C,o⟩;dsimp only at hi⊢;subst hi;refine Zn (λD=>?_) λE=>Za ?_
    ·have q:i<cls.length:=by omega
     obtain⟨p,j⟩:∃p,cls[i]?=some p:=⟨cls[i],Axy q⟩;have d:=c.trans a;refine ZGH (g.ext d) (v:=p.1) (by rw[Awy,j];rfl) rfl ?_;refine A p (Axo j) (h':=h3) (K:=_) d λF f=>?_;have G:=Zj B (a.trans f)
     cases y:p.2 with
     | false=>
       refine Zm rfl (rI (Zb G rfl) (Za (k F e ?_ (d.trans f))));rw[m,if_pos rfl,if_neg];intro b;rw[Axb]at b;have:=b p (Axo j);rw[y]at this;cases this
     | true=>
       refine Zh rfl ?_;rw[Yw (by omega) (by omega)];refine⟨⟨a.trans f,i+1,rfl,by omega,?_⟩,by omega⟩;rw[Aym,j,Ayr,o];simp[y]
    ·rw[Awd (by omega)]at o;exact k h3 0 (by rw[m,if_pos rfl,if_pos o]) (c.trans a)
theorem Zwg{K:Bool->HP}{b r:Bool}(a:K b h)(e:r=b):K r h:=e▸a
theorem ZA8(n m:Nat):((n:Int)==(m:Int))=decide (n=m):=by rw[Bool.eq_iff_iff,beq_iff_eq,decide_eq_true_eq];omega
theorem ZO6{f:FlowP}{T:TypeId}{b c:Nat}{lo:Int}(cb:obj h b=some (.cells (ZcR f).toArray T (0,0)))(a:Box h c (i64 lo)){K:Bool->HP}(d:K (inJ f.cnt lo 1099511627776) h):ZsU (.func (.func 261) #[] #[.pointer (At b),.pointer (At c)]) K h:=by obtain⟨T2,a⟩:=a;refine .inl ⟨(At b,At c,()),rfl,?_⟩;unfold Zd7 Zik;exact Zi (rI (Zb cb rfl) (Zi (rI (Zb a rfl) (YU (Zd d)))))
theorem ZO5{f:FlowP}{T:TypeId}{b:Nat}(cb:obj h b=some (.cells (ZcR f).toArray T (0,0))){K:Bool->HP}(a:K (decide (f.strat<=2)&&decide (f.shape<=3)) h):ZsU (.func (.func 262) #[] #[.pointer (At b)]) K h:=by
  refine .inr (.inl ⟨(At b,()),rfl,?_⟩);unfold Zd6 Zij;refine Zi (rI (Zb cb rfl) (Zn (λh1=>Zi (rI (Zb cb rfl) (Zd (Zwg a ?_)))) λh1=>Zwg a ?_))
  ·rw[decide_eq_true (p:=f.strat<=2) (by omega),Aqa,decide_eq_decide];omega
  ·rw[decide_eq_false (p:=f.strat<=2) (by omega),Aqb]
theorem ZO4{f:FlowP}{T:TypeId}{b:Nat}(cb:obj h b=some (.cells (ZcR f).toArray T (0,0))){K:Bool->HP}(a:K (!decide (f.strat=0)||decide (f.ref=[])) h):ZsU (.func (.func 263) #[] #[.pointer (At b)]) K h:=by
  refine .inr (.inr (.inl ⟨(At b,()),rfl,?_⟩));unfold Zd5 Zii;refine Zi (rI (Zb cb rfl) (Zq1 (λh1=>Zwg a ?_) λh1=>Zi (rS (Zb cb rfl) (Zd (Zwg a ?_)))))
  ·rw[decide_eq_false (p:=f.strat=0) (by omega)];rfl
  ·rw[decide_eq_true (p:=f.strat=0) (by omega)];exact Zhf f.ref []
theorem ZO3{f:FlowP}{T:TypeId}{b:Nat}(cb:obj h b=some (.cells (ZcR f).toArray T (0,0))){K:Bool->HP}(a:K (!f.thr||decide (f.shape=0) && !f.clu) h):ZsU (.func (.func 264) #[] #[.pointer (At b)]) K h:=by
  refine .inr (.inr (.inr (.inl ⟨(At b,()),rfl,?_⟩)));unfold Zd4 Zih;refine Zi (rBl (Zb cb rfl) ?_)
  cases c:f.thr with
  |false=>rw[c]at a;exact Zm rfl a
  | true=>
    rw[c]at a;refine Zh rfl (Zi (rI (Zb cb rfl) (ZhX (λh1=>Zi (rBl (Zb cb rfl) (Zd (Zwg a ?_)))) λh1=>Zwg a ?_)))
    ·rw[decide_eq_true (p:=f.shape=0) (by omega)];simp
    ·rw[decide_eq_false (p:=f.shape=0) (by omega)];simp
theorem ZO2{f:FlowP}{T:TypeId}{b w p:Nat}{c e:Bool}(cb:obj h b=some (.cells (ZcR f).toArray T (0,0)))(d:Box h w (.bool c))(cp:Box h p (.bool e)){K:Bool->HP}(a:K (onlyIf c f.warm 1 3600&&onlyIf e f.queue 0 3600000000) h):
    ZsU (.func (.func 265) #[] #[.pointer (At w),.pointer (At b),.pointer (At p)]) K h:=by
  obtain⟨T1,d⟩:=d;obtain⟨T2,cp⟩:=cp;refine .inr (.inr (.inr (.inr (.inl ⟨(At w,At b,At p,()),rfl,?_⟩))));unfold Zd3 Zig;refine Zi (rBl (Zb d rfl) (Zi (rI (Zb cb rfl) (ZlA ?_))))
  cases ho:onlyIf c f.warm 1 3600 with
  |false=>rw[ho]at a;exact Zh rfl a
  |true=>rw[ho]at a;exact Zm rfl (Zi (rBl (Zb cp rfl) (Zi (rI (Zb cb rfl) (ZlA (Zd a))))))
theorem ZO1{f:FlowP}{T:TypeId}{b:Nat}(cb:obj h b=some (.cells (ZcR f).toArray T (0,0))){K:Bool->HP}(a:K (!f.clu||decide (f.strat=0)&&decide (f.shape=0)) h):ZsU (.func (.func 266) #[] #[.pointer (At b)]) K h:=by
  refine .inr (.inr (.inr (.inr (.inr (.inl ⟨(At b,()),rfl,?_⟩)))));unfold Zd2 Zif;refine Zi (rBl (Zb cb rfl) ?_)
  cases c:f.clu with
  |false=>rw[c]at a;exact Zm rfl a
  | true=>
    rw[c]at a;refine Zh rfl (Zi (rI (Zb cb rfl) (ZhX (λh1=>Zi (rI (Zb cb rfl) (Zd (Zwg a ?_)))) λh1=>Zwg a ?_)))
    ·rw[decide_eq_true (p:=f.strat=0) (by omega)];exact ZA8 f.shape 0
    ·rw[decide_eq_false (p:=f.strat=0) (by omega)];rfl
theorem ZO0{f:FlowP}{T:TypeId}{b:Nat}(cb:obj h b=some (.cells (ZcR f).toArray T (0,0))){K:Bool->HP}(a:K (onlyIf f.clu f.id 1 1099511627776&&(f.clu|| !f.fb)) h):ZsU (.func (.func 267) #[] #[.pointer (At b)]) K h:=by
  refine .inr (.inr (.inr (.inr (.inr (.inr (.inl ⟨(At b,()),rfl,?_⟩))))));unfold Zd1 Zie;refine Zi (rBl (Zb cb rfl) (Zi (rI (Zb cb rfl) (ZlA ?_))))
  cases ho:onlyIf f.clu f.id 1 1099511627776 with
  |false=>rw[ho]at a;exact Zh rfl a
  | true=>
    rw[ho]at a;refine Zm rfl (Zi (rBl (Zb cb rfl) ?_))
    cases c:f.clu with
    |true=>rw[c]at a;exact Zm rfl a
    |false=>rw[c]at a;exact Zh rfl (Zi (rBl (Zb cb rfl) (Zd a)))
theorem ZyM{b:Nat}{v0 v:Value}(cb:Box h b v0)(hv:Zs v=true){K:HP}(a:∀h',Box h' b v->Upd (· = b) h h'->sz h'=sz h->K h'):st h b 0 v K:=by obtain⟨T,cb⟩:=cb;exact ZcS cb (by show 0<1;omega) hv λh' c u z=>a h' ⟨T,c⟩ u z
theorem Zmk{v0 v:Value}{T:TypeId}(hv:Zs v=true){K:Nat->HP}(c:∀b h',Ext h h'->Box h' b v->sz h<=b->K b h'):newC h [v0] T λb h1=>st h1 b 0 v λa=>K b a:=by refine ZF λh1 c1 d i=>ZcS c1 (by show 0<1;omega) hv λa e f k=>?_;exact c _ a (d.updS f λj g=>by subst g;exact Aqo _) ⟨_,e⟩ (Aqo _)
def FlowP.nms(f:FlowP):List BL:=if f.strat=1\/f.strat=2 then [f.org,f.ref]else [f.org]
theorem Zyv{f:FlowP}{bs:List Bool}(h:bs=[inJ f.cnt (if f.shape=0 then 0 else 1) 1099511627776,decide (f.strat<=2)&&decide (f.shape<=3),!decide (f.strat=0)||decide (f.ref=[]),!f.thr||decide (f.shape=0) && !f.clu,
    onlyIf (decide (f.shape=1)||decide (f.shape=3)) f.warm 1 3600&&onlyIf (decide (f.shape=2)||decide (f.shape=3)) f.queue 0 3600000000,!f.clu||decide (f.strat=0)&&decide (f.shape=0),onlyIf f.clu f.id 1 1099511627776&&(f.clu|| !f.fb)]):bs.all id=f.good:=by
  subst h;simp only[Awm,Ayc,id,Ayb,FlowP.good];simp only[Ayz]
theorem Zwe{f:FlowP}:(Zb9 f.res&&(Go.Proofs.YtonbfpnngkemiaaGreat.Rw.FlowP.nms f).all Zb9)=f.names:=by
  unfold FlowP.nms FlowP.names
  by_cases a:f.strat=1\/f.strat=2
  ·rw[if_pos a,if_pos a];simp[Ayz]
  ·rw[if_neg a,if_neg a];simp
theorem Zsi{f:FlowP}(hl:f.res.length<9223372036854775807/\f.org.length<9223372036854775807/\f.ref.length<9223372036854775807){K:Int->HP}(hk:∀h',Ext h h'->K f.err h'):ZhU (ZaL f) K h:=by
  unfold ZhU Zkk;refine ZF λh1 c1 e1 z1=>Za ?_;have cb:obj h1 h.size=some (.cells (ZcR f).toArray 69 (0,0)):=c1;have s0:sz h=h.size:=rfl;refine rS (Zb cb rfl) (ZF λJ c4 U z4=>?_);have s1:sz h1=h1.size:=rfl;have s4:sz J=J.size:=rfl;have z:=Zj cb U;refine ZeK (λp h'=>Ext h1 h'/\Row h' p.1 1 ((Go.Proofs.YtonbfpnngkemiaaGreat.Rw.FlowP.nms f).map sV)) ?_ ?_
  ·rintro ⟨nm,u⟩ V ⟨D,W⟩;dsimp only at W⊢;have l:=Zj cb D;refine ZeK (λp h'=>Ext V h'/\∃b,p.1=At b/\Box h' b (.bool (decide (f.shape=1)||decide (f.shape=3)))) ?_ ?_
   ·rintro ⟨wp,u⟩ X ⟨m,w,rfl,Y⟩;have q:=Zj l m;refine ZeK (λp h'=>Ext X h'/\∃b,p.1=At b/\Box h' b (.bool (decide (f.shape=2)||decide (f.shape=3)))) ?_ ?_
    ·rintro ⟨pp,u⟩ g ⟨d,pb,rfl,Z⟩
     have L:=Zj q d;refine Zmk rfl λlb s a bl au=>?_;have t:=Zj L a;have E:Ext h1 s:=D.trans (m.trans (d.trans a));have av:h.size<sz g:=by have:=(D.trans (m.trans d)).size;have:sz g=g.size:=rfl;omega
     refine ZeK (λ_ h'=>Ext h h'/\obj h' h.size=some (.cells (ZcR f).toArray 69 (0,0))/\Box h' lb (i64 (if f.shape=0 then 0 else 1))/\Row h' nm 1 ((Go.Proofs.YtonbfpnngkemiaaGreat.Rw.FlowP.nms f).map sV)/\Box h' w (.bool (decide (f.shape=1)||decide (f.shape=3)))/\Box h' pb (.bool (decide (f.shape=2)||decide (f.shape=3)))) ?_ ?_
     ·rintro ⟨⟩ aw ⟨aa,A,M,N,O,P⟩;refine rS (Zb A rfl) (ZF λax ab F ay=>?_)
      refine ZqP (cls:=[(.func (.func 261) #[] #[.pointer (At h.size),.pointer (At lb)],inJ f.cnt (if f.shape=0 then 0 else 1) 1099511627776),(.func (.func 262) #[] #[.pointer (At h.size)],decide (f.strat<=2)&&decide (f.shape<=3)),
        (.func (.func 263) #[] #[.pointer (At h.size)],!decide (f.strat=0)||decide (f.ref=[])),(.func (.func 264) #[] #[.pointer (At h.size)],!f.thr||decide (f.shape=0) && !f.clu),
        (.func (.func 265) #[] #[.pointer (At w),.pointer (At h.size),.pointer (At pb)],onlyIf (decide (f.shape=1)||decide (f.shape=3)) f.warm 1 3600&&onlyIf (decide (f.shape=2)||decide (f.shape=3)) f.queue 0 3600000000),
        (.func (.func 266) #[] #[.pointer (At h.size)],!f.clu||decide (f.strat=0)&&decide (f.shape=0)),(.func (.func 267) #[] #[.pointer (At h.size)],onlyIf f.clu f.id 1 1099511627776&&(f.clu|| !f.fb))])
        hl.1 (N.ext F) (λn G=>?_) (e:=30) rfl ⟨rfl,Aqo _,by show 7<_;omega,.inr ⟨_,0,rfl,Zgu ab λi v hi=>by simpa using hi⟩⟩ (λp hp h' S x k'=>?_) λh' n G x=>Za ?_
      ·unfold FlowP.nms at G;split at G<;>simp at G
       ·rcases G with rfl|rfl
        ·exact hl.2.1
        ·exact hl.2.2
       ·subst G;exact hl.2.1
      ·have T:=F.trans x;have c:=Zj A T;have H:=k' h' (Ext.refl _);simp only[Awr,Ayk,or_false]at hp
       rcases hp with rfl|rfl|rfl|rfl|rfl|rfl|rfl
       ·exact ZO6 c (M.ext T) H
       ·exact ZO5 c H
       ·exact ZO4 c H
       ·exact ZO3 c H
       ·exact ZO2 c (O.ext T) (P.ext T) H
       ·exact ZO1 c H
       ·exact ZO0 c H
      ·have:n=f.err:=by
         rw[G,Zwe];unfold FlowP.err;rw[<-Zyv rfl];rfl
       subst this;exact hk h' (aa.trans (F.trans x))
     ·have B:Ext h s:=e1.trans E;have Q:=(W.ext (m.trans (d.trans a)));refine rI (Zb t rfl) (ZhX (λh1=>ZyM bl rfl λae R y aA=>?_) λh1=>?_)
      ·have af:h.size≠lb:=by omega
       refine⟨B.updS y λj hj=>by subst hj;omega,Y0 t y af,by rw[if_pos (by omega)];exact R,?_,?_,?_⟩
       ·refine(W.ext (m.trans d)).congr λb _ _ _ hb=>?_;show obj ae b=obj g b;have aC:sz g=g.size:=rfl;have aD:sz s=s.size:=rfl;rw[Zal y (show b<sz s by have:=a.size;omega) (by omega)];exact ZQ a hb
       ·have:=(Y.ext d).lt;exact((Y.ext d).ext a).upd y (by omega)
       ·have:=Z.lt;exact(Z.ext a).upd y (by omega)
      ·exact⟨B,t,by rw[if_neg (by omega)];exact bl,Q,(Y.ext d).ext a,Z.ext a⟩
    ·refine rI (Zb q rfl) (ZhX (λh1=>Zmk rfl λb h' x I _=>⟨x,b,rfl,?_⟩) λh1=>rI (Zb q rfl) (Zmk rfl λb h' x I _=>⟨x,b,rfl,?_⟩))
     ·rw[decide_eq_true (p:=f.shape=2) (by omega),Bool.true_or];exact I
     ·rw[decide_eq_false (p:=f.shape=2) (by omega),Bool.false_or,<-ZA8];exact I
   ·refine rI (Zb l rfl) (ZhX (λh1=>Zmk rfl λb h' x I _=>⟨x,b,rfl,?_⟩) λh1=>rI (Zb l rfl) (Zmk rfl λb h' x I _=>⟨x,b,rfl,?_⟩))
    ·rw[decide_eq_true (p:=f.shape=1) (by omega),Bool.true_or];exact I
    ·rw[decide_eq_false (p:=f.shape=1) (by omega),Bool.false_or,<-ZA8];exact I
  ·have C:Own J h1.size ⟨some ⟨h1.size,0,none⟩,1,1⟩ 1 [sV f.org]:=⟨rfl,Aqo _,by show 1<_;omega,.inr ⟨_,_,_,rfl,Aqo _,c4,rfl,rfl⟩⟩
   have push:∀{S:Sl->HP},(f.strat=1\/f.strat=2)->(∀s' h',Ext h1 h'->Row h' s' 1 ((Go.Proofs.YtonbfpnngkemiaaGreat.Rw.FlowP.nms f).map sV)->S s' h')->newC J [.string (Zu f.ref)] 9 λb8 h9=>rdS ⟨some ⟨b8,0,none⟩,1,1⟩ 1 h9 λnew=>app 9 1 16 [.string (ByteArray.mk #[])] ⟨some ⟨h1.size,0,none⟩,1,1⟩ 1 new h9 S:=by
     intro S hs k;refine Zus (cells:=[sV f.ref]) C rfl rfl rfl (show(1+1)*16<=140737488355328 by decide) (show 1+1<=140737488355328 by decide) (show h1.size<=sz J by omega) λs' h' o u _=>k s' h' (U.updS u λj hj=>?_) ?_
     ·have:h1.size=j:=by simpa[Sl.blk]using hj
      omega
     ·unfold FlowP.nms;rw[if_pos hs];exact o.row
   refine rI (Zb z rfl) (ZhX (λah=>rS (Zb z rfl) (push (.inl (by omega)) λs' h' e r=>⟨e,r⟩)) λah=>rI (Zb z rfl) (ZhX (λai=>rS (Zb z rfl) (push (.inr (by omega)) λs' h' e r=>⟨e,r⟩)) λai=>⟨U,?_⟩));unfold FlowP.nms;rw[if_neg (by omega)];exact C.row
theorem ZtO{cls:List Value}{T:TypeId}{b n:Nat}(c:obj h b=some (.cells cls.toArray T (0,0)))(a:cls.length=n)(hl:n<9223372036854775808):Row h ⟨some ⟨b,0,none⟩,n,n⟩ 1 cls:=
  ⟨by simp[a],Aqo _,hl,.inr ⟨_,0,rfl,Zgu c λi v hi=>by simpa using hi⟩⟩
theorem ZHM{f:YK}{T:TypeId}{b c:Nat}{hi:Int}(cb:obj h b=some (.cells (ZbN f).toArray T (0,0)))(a:Box h c (i64 hi)){K:Bool->HP}(d:K (decide (f.grade<=2)&&inJ f.cnt 0 hi) h):ZsU (.func (.func 205) #[] #[.pointer (At b),.pointer (At c)]) K h:=by
  obtain⟨T2,a⟩:=a;refine .inr (.inr (.inr (.inr (.inr (.inr (.inr (.inl ⟨(At b,At c,()),rfl,?_⟩)))))));unfold Zc0 Zhy;refine Zi (rI (Zb cb rfl) (Zn (λh1=>Zi (rI (Zb cb rfl) (Zi (rI (Zb a rfl) (YU (Zd (Zwg d ?_))))))) λh1=>Zwg d ?_))
  ·rw[decide_eq_true (p:=f.grade<=2) (by omega),Aqa];rfl
  ·rw[decide_eq_false (p:=f.grade<=2) (by omega),Aqb]
theorem ZHL{f:YK}{T:TypeId}{b:Nat}(cb:obj h b=some (.cells (ZbN f).toArray T (0,0))){K:Bool->HP}(a:K (onlyIf (decide (f.grade=0)) f.slow 1 3600000000) h):ZsU (.func (.func 206) #[] #[.pointer (At b)]) K h:=by refine .inr (.inr (.inr (.inr (.inr (.inr (.inr (.inr (.inl ⟨(At b,()),rfl,?_⟩))))))));unfold ZcZ Zhx;refine Zi (rI (Zb cb rfl) (Zi (rI (Zb cb rfl) (ZlA (Zd (Zwg a ?_))))));rw[<-ZA8 f.grade 0];rfl
theorem ZHK{f:YK}{T:TypeId}{b:Nat}(cb:obj h b=some (.cells (ZbN f).toArray T (0,0))){K:Bool->HP}(a:K (inJ f.least 1 1099511627776&&inJ f.window 1000000 120000000) h):ZsU (.func (.func 208) #[] #[.pointer (At b)]) K h:=by
  refine .inr (.inr (.inr (.inr (.inr (.inr (.inr (.inr (.inr (.inl ⟨(At b,()),rfl,?_⟩)))))))));unfold ZcY Zhw;refine Zi (rI (Zb cb rfl) (YU ?_));show Zk (inJ f.least 1 1099511627776) _ _
  cases ho:inJ f.least 1 1099511627776 with
  |false=>rw[ho]at a;exact Zh rfl a
  |true=>rw[ho]at a;exact Zm rfl (Zi (rI (Zb cb rfl) (YU (Zd a))))
theorem ZHJ{f:YK}{T:TypeId}{b:Nat}(cb:obj h b=some (.cells (ZbN f).toArray T (0,0))){K:Bool->HP}(a:K (inJ f.recover 1000000 3600000000) h):ZsU (.func (.func 209) #[] #[.pointer (At b)]) K h:=by refine .inr (.inr (.inr (.inr (.inr (.inr (.inr (.inr (.inr (.inr (.inl ⟨(At b,()),rfl,?_⟩))))))))));unfold ZcX Zhv;exact Zi (rI (Zb cb rfl) (YU (Zd a)))
theorem ZlS{f:YK}(hl:f.res.length<9223372036854775807){K:Int->HP}(w:∀h',Ext h h'->K f.err h'):Zdo (ZCf f) K h:=by
  unfold Zdo Zjc;refine ZF λh1 c1 r D=>Za ?_;have cb:obj h1 h.size=some (.cells (ZbN f).toArray 141 (0,0)):=c1;have E:sz h=h.size:=rfl;have s1:sz h1=h1.size:=rfl;refine Zmk rfl λmb F i s x=>?_;have a:=Zj cb i;refine ZeK (λ_ h'=>Ext h h'/\obj h' h.size=some (.cells (ZbN f).toArray 141 (0,0))/\Box h' mb (i64 (if f.grade=2 then 1099511627776 else 1000))) ?_ ?_
  ·rintro ⟨⟩ G ⟨y,b,k⟩;refine rS (Zb b rfl) (ZF λz l d A=>?_)
   refine ZqP (cls:=[(.func (.func 205) #[] #[.pointer (At h.size),.pointer (At mb)],decide (f.grade<=2)&&inJ f.cnt 0 (if f.grade=2 then 1099511627776 else 1000)),(.func (.func 206) #[] #[.pointer (At h.size)],onlyIf (decide (f.grade=0)) f.slow 1 3600000000),
     (.func (.func 208) #[] #[.pointer (At h.size)],inJ f.least 1 1099511627776&&inJ f.window 1000000 120000000),(.func (.func 209) #[] #[.pointer (At h.size)],inJ f.recover 1000000 3600000000)])
     hl (nms:=[]) (Row.nil _ 1) (λn m=>by cases m) (e:=31) rfl (ZtO (n:=4) l rfl (by decide)) (λp t h' H o B=>?_) λh' n m o=>Za ?_
   ·have u:=d.trans o;have c:=Zj b u;have g:=B h' (Ext.refl _);simp only[Awr,Ayk,or_false]at t
    rcases t with rfl|rfl|rfl|rfl
    ·exact ZHM c (k.ext u) g
    ·exact ZHL c g
    ·exact ZHK c g
    ·exact ZHJ c g
   ·have:n=f.err:=by
      rw[m];simp only[Ayc,Ayb,Awm,YK.err,YK.good,Ayz]
    subst this;exact w h' (y.trans (d.trans o))
  ·refine rI (Zb a rfl) (ZhX (λh1=>ZyM s rfl λI q v J=>?_) λh1=>?_)
   ·exact⟨(r.trans i).updS v λj C=>by subst C;omega,Y0 a v (by omega),by rw[if_pos (by omega)];exact q⟩
   ·exact⟨r.trans i,a,by rw[if_neg (by omega)];exact s⟩
theorem ZoR{f:Zas}{K:Int->HP}(l:∀h',Ext h h'->K f.err h'):Zbj (Zqv f) K h:=by
  unfold Zbj Zgc;refine ZF λh1 c1 m D=>Za ?_;have cb:obj h1 h.size=some (.cells (ZdB f).toArray 144 (0,0)):=c1;refine rI (Zb cb rfl) (rI (Zb cb rfl) (rI (Zb cb rfl) (rI (Zb cb rfl) (rI (Zb cb rfl) (ZF λq x r E=>?_)))));obtain⟨a,d⟩:∃a,a=[f.qps,f.threads,f.rt,f.load,f.cpu]:=⟨_,rfl⟩;have y:a.length=5:=by rw[d];rfl
  have row:Row q ⟨some ⟨h1.size,0,none⟩,5,5⟩ 1 (a.map i64):=by
    rw[d];exact⟨rfl,Aqo _,by show 5<_;omega,.inr ⟨_,0,rfl,Zgu x λi v hi=>by simpa[i64]using hi⟩⟩
  have c:a.all (λn=>inJ n (-1) 1099511627776)=(inJ f.qps (-1) 1099511627776&&inJ f.threads (-1) 1099511627776&&inJ f.rt (-1) 1099511627776&&inJ f.load (-1) 1099511627776&&inJ f.cpu (-1) 1099511627776):=by
    rw[d];simp[Ayz]
  refine YL (λp h'=>h'=q/\∃i:Nat,p.1=i/\i<=5/\(a.take i).all (λn=>inJ n (-1) 1099511627776)=true) (λp _=>(5-p.1).toNat) ⟨rfl,0,rfl,Ayg _,rfl⟩ ?_;rintro⟨F,u⟩ s ⟨rfl,i,hi,z,e⟩;dsimp only at hi⊢;subst hi;refine Zn (λA=>?_) λB=>Za ?_
  ·have g:i<a.length:=by omega
   obtain⟨t,j⟩:∃t,a[i]?=some t:=⟨a[i],Axy g⟩;refine Row.idx row (i:=(i:Int)) (n:=i) rfl (v:=i64 t) (by rw[Awy,j];rfl) λb o _ C=>⟨t,C,Za (YU ?_)⟩;show Zk (!inJ t (-1) 1099511627776) _ _
   cases w:inJ t (-1) 1099511627776 with
   | false=>
     refine Zm rfl (Za ?_)
     have:f.err=33:=by
       unfold Zas.err;rw[<-c,if_neg];intro h;rw[Axb]at h;have:=h t (Axo j);rw[w]at this;cases this
     have k:=l s (m.trans r);rw[this]at k;exact k
   | true=>
     refine Zh rfl ?_;rw[Yw (by omega) (by omega)];refine⟨⟨rfl,i+1,rfl,by omega,?_⟩,by omega⟩;rw[Aym,j,Ayr,e];simp[w]
  ·have:i=5:=by omega
   subst this;rw[Awd (by omega)]at e
   have:f.err=0:=by
     unfold Zas.err;rw[<-c,if_pos e]
   have k:=l s (m.trans r);rw[this]at k;exact k
theorem ZOU{f:Zbi}{x:Sl}{T:TypeId}{b:Nat}(cb:obj h b=some (.cells (Zhp (x,f)).toArray T (0,0)))(c:Row h x 1 (f.origins.map sV)){K:Bool->HP}(a:K (decide (1<=f.origins.length)&&decide (f.origins.length<=32) && !Ziu f.origins) h):
    ZsU (.func (.func 238) #[] #[.pointer (At b)]) K h:=by
  refine .inr (.inr (.inr (.inr (.inr (.inr (.inr (.inr (.inr (.inr (.inr (.inr (.inr (.inr (.inl ⟨(At b,()),rfl,?_⟩))))))))))))));unfold Zd0 Zid;have hl:=ZlG c;refine Zi (rL (s:=x) (Zb cb rfl) (YU ?_))
  have e:(decide ((1:Int)<=(x.len:Int))&&decide ((x.len:Int)<=32))=(decide (1<=f.origins.length)&&decide (f.origins.length<=32)):=by
    rw[hl];congr 1<;>(rw[decide_eq_decide];omega)
  rw[e]
  cases ho:(decide (1<=f.origins.length)&&decide (f.origins.length<=32))with
  |false=>rw[ho]at a;exact Zh rfl a
  |true=>rw[ho]at a;exact Zm rfl (Zi (rL (s:=x) (Zb cb rfl) (Zpd c (Zd a))))
theorem ZhW{f:Zbi}{x:Sl}(hl:f.res.length<9223372036854775807/\∀n,n∈f.origins->n.length<9223372036854775807)(d:Row h x 1 (f.origins.map sV)){K:Int->HP}(i:∀h',Ext h h'->K f.err h'):Zgp (ZHj x f) K h:=by
  unfold Zgp Zki;refine ZF λh1 c1 c m=>Za ?_;have cb:obj h1 h.size=some (.cells (Zhp (x,f)).toArray 147 (0,0)):=c1;refine rS (Zb cb rfl) (rL (s:=x) (Zb cb rfl) (ZF λo j a z5=>?_))
  refine ZqP (cls:=[(.func (.func 238) #[] #[.pointer (At h.size)],decide (1<=f.origins.length)&&decide (f.origins.length<=32) && !Ziu f.origins)])
    hl.1 (nms:=f.origins) (d.ext (c.trans a)) hl.2 (e:=34) rfl (ZtO (n:=1) j rfl (by decide)) (λp g h' q b k=>?_) λh' n l b=>Za ?_
  ·simp only[Awr,Ayk,or_false]at g;subst g;exact ZOU (Zj cb (a.trans b)) (d.ext (c.trans (a.trans b))) (k h' (Ext.refl _))
  ·have:n=f.err:=by
     rw[l];simp only[Ayc,Ayb,Awm,Zbi.err]
   subst this;exact i h' (c.trans (a.trans b))
theorem Zh8{l:List (BL×Int)}:(Zds l).length=l.length*2:=Zmy (f:=λp:BL×Int=>[sV p.1,iv p.2]) (n:=2) (λ_=>rfl) l
theorem Zq0{l:List (BL×Int)}{x:Sl}(d:Row h x 2 (Zds l)){i:Nat}{p:BL×Int}(c:l[i]?=some p){n:Int}(g:n=i){K:ByteArray->Int->Prop}(j:K (Zu p.1) p.2):Yk x.ptr x.len n 2 λb o=>ldS h b o λt=>ldI h b (o+1) .i64 λt2=>K t t2:=by
  have hl:=d.len;rw[Zh8]at hl;have hi:=ZBh c
  rcases d.at_ with h0|⟨b,o,a,e⟩
  ·omega
  ·rw [a];refine Zyj (n:=i) g (by omega) ?_;have g0:h.cell b (o+i*2)=some (sV p.1):=Zh9 e (by have:=Zok (n:=2) (f:=λp:BL×Int=>[sV p.1,iv p.2]) (λ_=>rfl) l i 0 p c (by decide);simpa[Zds]using this)
   have k:h.cell b (o+i*2+1)=some (iv p.2):=by
     have:=Zh9 e (i:=i*2+1) (by have:=Zok (n:=2) (f:=λp:BL×Int=>[sV p.1,iv p.2]) (λ_=>rfl) l i 1 p c (by decide);simpa[Zds]using this);rw[<-Aqh]at this;exact this
   exact⟨_,g0,_,k,j⟩
theorem ZSE{f:ZdX}{x:Sl}{T:TypeId}{b:Nat}(cb:obj h b=some (.cells (ZjI (x,f)).toArray T (0,0))){K:Bool->HP}(a:K (inJ f.index 0 7&&inJ f.cnt 0 1099511627776) h):ZsU (.func (.func 212) #[] #[.pointer (At b)]) K h:=by
  refine .inr (.inr (.inr (.inr (.inr (.inr (.inr (.inr (.inr (.inr (.inr (.inl ⟨(At b,()),rfl,?_⟩)))))))))));unfold ZeX Zjb;refine Zi (rI (Zb cb rfl) (YU ?_));show Zk (inJ f.index 0 7) _ _
  cases ho:inJ f.index 0 7 with
  |false=>rw[ho]at a;exact Zh rfl a
  |true=>rw[ho]at a;exact Zm rfl (Zi (rI (Zb cb rfl) (YU (Zd a))))
theorem ZSD{f:ZdX}{x y:Sl}{T:TypeId}{b c:Nat}(cb:obj h b=some (.cells (ZjI (x,f)).toArray T (0,0)))(e:Row h x 2 (Zds f.items))(d:Box h c (slV y))(g:Row h y 1 ((f.items.map (·.1)).map sV)){K:Bool->HP}
    (a:K (inJ f.secs 1 60&&decide (f.items.length<=32) && !Ziu (f.items.map (·.1))) h):ZsU (.func (.func 213) #[] #[.pointer (At b),.pointer (At c)]) K h:=by
  obtain⟨T2,d⟩:=d;refine .inr (.inr (.inr (.inr (.inr (.inr (.inr (.inr (.inr (.inr (.inr (.inr (.inl ⟨(At b,At c,()),rfl,?_⟩))))))))))));unfold ZeW Zja;have hl:=e.len;rw[Zh8]at hl;refine Zi (rI (Zb cb rfl) (YU ?_));show Zk (inJ f.secs 1 60) _ _
  cases ho:inJ f.secs 1 60 with
  |false=>rw[ho]at a;exact Zh rfl a
  | true=>
    rw[ho]at a;refine Zm rfl (Zi (rL (s:=x) (Zb cb rfl) (Zn (λh1=>Zi (rL (s:=y) (Zb d rfl) (Zpd g (Zd (Zwg a ?_))))) λh1=>Zwg a ?_)))
    ·rw[decide_eq_true (p:=f.items.length<=32) (by omega)];rfl
    ·rw[decide_eq_false (p:=f.items.length<=32) (by omega)];rfl
theorem ZSC{f:ZdX}{x:Sl}{T:TypeId}{b:Nat}(cb:obj h b=some (.cells (ZjI (x,f)).toArray T (0,0)))(j:Row h x 2 (Zds f.items)){K:Bool->HP}(o:∀h',Ext h h'->K (f.items.all λp=>decide (p.1.length<=64)&&inJ p.2 0 1099511627776) h'):
    ZsU (.func (.func 215) #[] #[.pointer (At b)]) K h:=by
  refine .inr (.inr (.inr (.inr (.inr (.inr (.inr (.inr (.inr (.inr (.inr (.inr (.inr (.inl ⟨(At b,()),rfl,?_⟩)))))))))))));unfold ZeV Zi9;refine Zi (rL (s:=x) (Zb cb rfl) ?_);unfold Z7 Yc Yh Yi;have hl:=j.len;rw[Zh8]at hl;have big:=j.big;have cap:=j.cap;obtain⟨g,q⟩:∃g:BL×Int->Bool,g=λp=>decide (p.1.length<=64)&&inJ p.2 0 1099511627776:=⟨_,rfl⟩;rw[<-q]at o;refine Za (YL (λp h'=>Ext h h'/\∃i:Nat,p.1=i/\i<=f.items.length/\(f.items.take i).all g=true) (λp _=>(f.items.length- p.1).toNat) ⟨Ext.refl _,0,rfl,Ayg _,rfl⟩ ?_);rintro⟨H,u⟩ r ⟨l,i,hi,D,t⟩;dsimp only at hi⊢;subst hi;refine Zn (λE=>Za ?_) λF=>Za (Zd (Zd ?_))
  ·have v:i<f.items.length:=by omega
   obtain⟨p,w⟩:∃p,f.items[i]?=some p:=⟨f.items[i],Axy v⟩;refine Zq0 (j.ext l) w rfl ?_;unfold Zhm Zhu;refine ZF λh3 A B z3=>rS (n:=Zu p.1) (Zb A rfl) ?_
   have step:∀(bad:Bool),bad= !g p->Zk bad (Zc (i:Int) λt8=>(λ(t1:Int) r=>Zq (decide (t1>=0)) λt2=>Zq (!t2) λt3=>K t3 r) t8 h3) (Ext h h3/\(∃y:Nat,IntKind.wrap .i64 ((i:Int)+1)=y/\y<=f.items.length/\(f.items.take y).all g=true)/\(f.items.length- IntKind.wrap .i64 ((i:Int)+1)).toNat<(f.items.length- (i:Int)).toNat):=λbad m=>by
     cases d:g p with
     | false=>
       rw[d]at m;refine Zm (by rw[m];rfl) (Za (Zd (Zd ?_)));rw[show decide ((i:Int)>=0)=true by simp]
       have:f.items.all g=false:=by
         cases C:f.items.all g with
         |false=>rfl
         |true=>rw[Axb]at C;have:=C p (Axo w);rw[d]at this;cases this
       have k:=o h3 (l.trans B);rw[this]at k;exact k
     | true=>
       rw[d]at m;refine Zh (by rw[m];rfl) ?_;rw[Yw (by omega) (by omega)];refine⟨l.trans B,⟨i+1,rfl,by omega,?_⟩,by omega⟩;rw[Aym,w,Ayr,t];simp[d]
   have G:(Zu p.1).size=p.1.length:=rfl;refine Zn (λz=>?_) λz=>rI (n:=p.2) (Zb A rfl) (YU (Zd ?_))
   ·have:=step true (by rw[q];simp only[decide_eq_false (p:=p.1.length<=64) (by omega),Aqb,Axj]);exact⟨λe=>this.1 e,λe=>by cases e⟩
   ·have:=step (!inJ p.2 0 1099511627776) (by rw[q];simp only[decide_eq_true (p:=p.1.length<=64) (by omega),Aqa]);exact⟨this.1,λe=>let⟨a,b,c⟩:=this.2 e;⟨⟨a,b⟩,c⟩⟩
  ·rw[Awd (by omega)]at t;have k:=o r l;rw[t]at k;exact k
theorem Zn7{f:ZdX}{x:Sl}(hl:f.res.length<9223372036854775807)(hi:f.items.length<=1000000000000)(w:Row h x 2 (Zds f.items)){K:Int->HP}(hk:∀h',Ext h h'->K f.err h'):Zhn (ZFy x f) K h:=by
  unfold Zhn Zld;refine ZF λh1 c1 e1 z1=>Za (ZF λh3 c3 X z3=>?_);have s0:sz h=h.size:=rfl;have s1:sz h1=h1.size:=rfl;have s3:sz h3=h3.size:=rfl;have cb:obj h3 h.size=some (.cells (ZjI (x,f)).toArray 72 (0,0)):=Zj c1 X;have I:=w.len;rw[Zh8]at I;have big:=w.big;have cap:=w.cap;have hm:(f.items.map (·.1)).length=f.items.length:=by simp
  refine rL (s:=x) (Zb cb rfl) (YL (λp h'=>∃(i:Nat) (y:Sl),p.1=i/\i<=f.items.length/\Ext h h'/\obj h' h.size=some (.cells (ZjI (x,f)).toArray 72 (0,0))/\Box h' h1.size (slV y)/\Own h' (sz h3) y 1 (((f.items.map (·.1)).take i).map sV)) (λp _=>(f.items.length- p.1).toNat)
    ⟨0,⟨none,0,0⟩,rfl,Ayg _,e1.trans X,cb,⟨_,c3⟩,Own.nil _ _ _⟩ ?_)
  rintro⟨i_,u⟩ z ⟨i,y,A,af,g,l,m,a⟩;dsimp only at A⊢;subst A;have ag:y.len=i:=by have:=a.len;simp at this;omega
  have Y:sz h3<=sz z\/True:=.inr trivial;refine Zn (λah=>?_) λai=>?_
  ·have J:i<f.items.length:=by omega
   obtain⟨p,B⟩:∃p,f.items[i]?=some p:=⟨f.items[i],Axy J⟩;refine Zq0 (w.ext g) B rfl (ZF λC L M aj=>ZOI L (by show 2<=2;omega) rfl λk N O ak=>?_);have s6:sz z=z.size:=rfl;have al:sz C=C.size:=rfl;have an:sz k=k.size:=rfl;have d:Ext z k:=M.updS O λj G=>by subst G;exact Aqo _
   have D:=m.ext d;obtain⟨Tb,E⟩:=D;have o:Own k (sz h3) y 1 (((f.items.map (·.1)).take i).map sV):=a.congr λb _ P _=>ZQ d P;have Z:=m.lt;have blt:∀{b:Nat},y.blk=some b->sz h3<=b/\b<sz z:=λe=>a.lt e;refine rL (s:=y) (Zb E rfl) (rS (n:=Zu p.1) (Zb N rfl) (Zus (cells:=[sV p.1]) o rfl rfl rfl (by omega) (by omega) ?_ λs' Q R q aq=>?_))
   ·have:=g.size;omega
   have t:obj Q h1.size=some (.cells [slV y].toArray Tb (0,0)):=Y0 E q λe=>by have:=(blt e).1;omega
   refine ZcS t (by show 0<1;omega) rfl λar S v au=>?_;rw[Yw (by omega) (by omega)];refine⟨⟨i+1,s',rfl,by omega,?_,?_,⟨_,S⟩,?_⟩,by omega⟩
   ·exact((g.trans d).updS q λj G=>by have:=(blt G).1;omega).updS v λj G=>by omega
   ·exact Y0 (Y0 (Zj l d) q λe=>by have:=(blt e).1;omega) v (by omega)
   ·have:((f.items.map (·.1)).take (i+1)).map sV=((f.items.map (·.1)).take i).map sV++[sV p.1]:=by
      rw[Aym,Awy,B];simp
    rw[this];exact R.congr λb av P aw=>Zal v P λe=>by omega
  ·have:i=f.items.length:=by omega
   subst this;rw[Awd (by omega)]at a;refine rS (Zb l rfl) (ZF λax T F z22=>?_)
   refine ZqP (cls:=[(.func (.func 212) #[] #[.pointer (At h.size)],inJ f.index 0 7&&inJ f.cnt 0 1099511627776),(.func (.func 213) #[] #[.pointer (At h.size),.pointer (At h1.size)],inJ f.secs 1 60&&decide (f.items.length<=32) && !Ziu (f.items.map (·.1))),
     (.func (.func 215) #[] #[.pointer (At h.size)],f.items.all λp=>decide (p.1.length<=64)&&inJ p.2 0 1099511627776)])
     hl (nms:=[]) (Row.nil _ 1) (λn U=>by cases U) (e:=32) rfl (ZtO (n:=3) T rfl (by decide)) (λp B h' K' V W=>?_) λh' n U V=>Za ?_
   ·have H:=F.trans V;have c:=Zj l H;have r:=w.ext (g.trans H);simp only[Awr,Ayk,or_false]at B
    rcases B with rfl|rfl|rfl
    ·exact ZSE c (W h' (Ext.refl _))
    ·exact ZSD c r (m.ext H) (a.row.ext H) (W h' (Ext.refl _))
    ·exact ZSC c r W
   ·have:n=f.err:=by
      rw[U];simp only[Ayc,Ayb,Awm,ZdX.err,ZdX.good,Ayz]
    subst this;exact hk h' (g.trans (F.trans V))
end
end Go.Proofs.YtonbfpnngkemiaaGreat.Rw
namespace Go.Proofs.YtonbfpnngkemiaaGreat.Rw
open Go Go.Fw Go.Js
section
variable{H:Type}{enc:TypeId×Value->H}{P:Program}{w:World}{base:Nat}{spare:Nat->Bool}{held:Bool}
variable{tR tF tB tH tY tL tI ts tb ti tsg tsh tg sF sB sH sY sL sI sT:TypeId}
def Zjw(z:VTR):List Value:=[slV z.1,slV z.2.1,slV z.2.2.1,slV z.2.2.2.1,slV z.2.2.2.2.1]
end
end Go.Proofs.YtonbfpnngkemiaaGreat.Rw
namespace Go.Js
open Go Go.Fw Go.Js
def Zo0:List (List Nat)->Nat->Option Nat
  |[],_=>none
  |es::r,k=>if 256<es.length then some k else Zo0 r (k+1)
def ZEY:List (List Nat)->Nat->Option (Nat×Nat×Nat)
  |[],_=>none
  | es::r,k=>match Zbh id es 0 with
    |some (i,e)=>some (k,i,e)
    |none=>ZEY r (k+1)
def ZrH(gs:List (List Nat)):Nat×Nat×Nat:=match Zo0 gs 1 with
  |some k=>(k,0,5)
  |none=>(ZEY gs 1).getD (0,0,0)
def RulesP.errs(r:RulesP):List (List Nat):=[r.fl.map FlowP.err,r.br.map YK.err,r.ho.map ZdX.err,r.sy.map Zas.err,r.li.map Zbi.err]
theorem ZpT{α:Type}(f:α->Nat):∀(l:List α) (i:Nat),Zbh id (l.map f) i=Zbh f l i
  |[],_=>rfl
  | a::l,i=>by
    simp only[Awo,Zbh,id];rw[ZpT f l]
theorem Zqn(r:RulesP):r.whereE=ZrH r.errs:=by
  unfold RulesP.whereE ZrH RulesP.errs;simp only[Zo0,ZEY,Ayv,ZpT];split
  ·rfl
  ·split
   ·rfl
   ·split
    ·rfl
    ·split
     ·rfl
     ·split
      ·rfl
      ·cases Zbh FlowP.err r.fl 0 with
       |some p=>rfl
       | none=>cases Zbh YK.err r.br 0 with
         |some p=>rfl
         | none=>cases Zbh ZdX.err r.ho 0 with
           |some p=>rfl
           | none=>cases Zbh Zas.err r.sy 0 with
             |some p=>rfl
             | none=>cases Zbh Zbi.err r.li 0 with
               |some p=>rfl
               |none=>rfl
theorem ZpE{gs:List (List Nat)}{i k:Nat}{es:List Nat}(h:gs[i]?=some es):Zo0 (gs.drop i) k=if 256<es.length then some k else Zo0 (gs.drop (i+1)) (k+1):=by obtain⟨hi,rfl⟩:=Ayh.1 h;rw[Ayo hi];rfl
theorem ZyD{gs:List (List Nat)}{i k:Nat}{es:List Nat}(h:gs[i]?=some es):ZEY (gs.drop i) k=match Zbh id es 0 with
    |some (i,e)=>some (k,i,e)
    |none=>ZEY (gs.drop (i+1)) (k+1):=by
  obtain⟨hi,rfl⟩:=Ayh.1 h;rw[Ayo hi];rfl
theorem Zol{es:List Nat}{i k e:Nat}(h:es[i]?=some e):Zbh id (es.drop i) k=if e=0 then Zbh id (es.drop (i+1)) (k+1)else some (k,e):=by obtain⟨hi,rfl⟩:=Ayh.1 h;rw[Ayo hi];rfl
end Go.Js
namespace Go.Proofs.YtonbfpnngkemiaaGreat.Rw
open Go Go.Fw Go.Js
section
variable{h:Zf}
theorem ZnE{α:Type}{c:α->List Value}{n:Nat}(e:∀a,(c a).length=n){l:List α}{x:Sl}(f:Row h x n (l.flatMap c))(j:0<n){i:Nat}{a:α}(g:l[i]?=some a){k:Int}(p:k=i){P:Nat->Nat->Prop}
    (q:∀b o,(∀m v,(c a)[m]?=some v->h.cell b (o+m)=some v)->P b o):Yk x.ptr x.len k n P:=by
  have hl:=f.len;rw[Zmy e]at hl;have hi:=ZBh g;have r:x.len=l.length:=Ayf j hl.symm
  rcases f.at_ with h0|⟨b,o,d,s⟩
  ·omega
  ·rw [d]
   refine Zyj (n:=i) p (by omega) (q b _ λm v hv=>?_);have hm:m<n:=by rw[<-e a];exact ZBh hv
   have:=Zh9 s (i:=i*n+m) (by rw[Zok e l i m a g hm];exact hv);rw[<-Aqh]at this;exact this
theorem Zmd{α:Type}{c:α->List Value}{n:Nat}(b:∀a,(c a).length=n){l:List α}{x:Sl}(d:Row h x n (l.flatMap c))(e:0<n):x.len=l.length:=by have hl:=d.len;rw[Zmy b]at hl;exact Ayf e hl.symm
def ZFD(cl:Value)(i:Int)(K:Int->HP)(h:Zf):Prop:=
  (exG cl (λc:Option Addr×Unit=>.func (.func 197) #[] ⟨[.pointer c.1]⟩) λc=>Zcg i c.1 K h)\/(
  (exG cl (λc:Option Addr×Unit=>.func (.func 199) #[] ⟨[.pointer c.1]⟩) λc=>Zcf i c.1 K h)\/(
  (exG cl (λc:Option Addr×Unit=>.func (.func 200) #[] ⟨[.pointer c.1]⟩) λc=>Zce i c.1 K h)\/(
  (exG cl (λc:Option Addr×Unit=>.func (.func 201) #[] ⟨[.pointer c.1]⟩) λc=>Zcd i c.1 K h)\/(
  (exG cl (λc:Option Addr×Unit=>.func (.func 203) #[] ⟨[.pointer c.1]⟩) λc=>Zcc i c.1 K h)\/False))))
def RulesP.fit(r:RulesP):Prop:=(∀f,f∈r.fl->f.res.length<9223372036854775807/\f.org.length<9223372036854775807/\f.ref.length<9223372036854775807)/\(∀f,f∈r.br->f.res.length<9223372036854775807)/\
  (∀f,f∈r.ho->f.res.length<9223372036854775807/\f.items.length<=1000000000000)/\∀f,f∈r.li->f.res.length<9223372036854775807/\∀n,n∈f.origins->n.length<9223372036854775807
theorem Zsp{α:Type}{f:α->Nat}{l:List α}{j e:Nat}(h:(l.map f)[j]?=some e):∃a,l[j]?=some a/\e=f a:=by rw[Awy,Aza]at h;obtain⟨a,h1,b⟩:=h;exact⟨a,h1,b.symm⟩
abbrev clG(F gb:Nat):Value:=.func (.func F) #[] #[.pointer (At gb)]
theorem ZEP{z:VTR}{r:RulesP}{S:Nat->Prop}(i:Yn h S z r)(k:Go.Proofs.YtonbfpnngkemiaaGreat.Rw.RulesP.fit r){gb:Nat}{T:TypeId}(c:obj h gb=some (.cells (Zjw z).toArray T (0,0))){j e:Nat}(he:(r.fl.map FlowP.err)[j]?=some e){K:Int->HP}(l:∀h',Ext h h'->K e h'):
    ZFD (clG 197 gb) j K h:=by
  obtain⟨a,d,rfl⟩:=Zsp he;refine .inl ⟨(At gb,()),rfl,?_⟩;unfold Zcg ZgJ;refine Za (Zi (rL (s:=z.1) (Zb c rfl) (ZnE (c:=ZcR) (λ_=>rfl) i.fl.1 (by decide) d rfl λb o g=>?_)));refine⟨_,g 0 _ rfl,_,g 1 _ rfl,_,g 2 _ rfl,_,g 3 _ rfl,_,g 4 _ rfl,_,g 5 _ rfl,_,g 6 _ rfl,_,g 7 _ rfl,_,g 8 _ rfl,_,g 9 _ rfl,_,g 10 _ rfl,_,g 11 _ rfl,?_⟩;exact Zsi (f:=a) (k.1 a (Axo d)) λh' m=>Za (l h' m)
theorem ZEO{z:VTR}{r:RulesP}{S:Nat->Prop}(i:Yn h S z r)(k:Go.Proofs.YtonbfpnngkemiaaGreat.Rw.RulesP.fit r){gb:Nat}{T:TypeId}(c:obj h gb=some (.cells (Zjw z).toArray T (0,0))){j e:Nat}(he:(r.br.map YK.err)[j]?=some e){K:Int->HP}(l:∀h',Ext h h'->K e h'):
    ZFD (clG 199 gb) j K h:=by
  obtain⟨a,d,rfl⟩:=Zsp he;refine .inr (.inl ⟨(At gb,()),rfl,?_⟩);unfold Zcf ZgI;refine Za (Zi (rL (s:=z.2.1) (Zb c rfl) (ZnE (c:=ZbN) (λ_=>rfl) i.br.1 (by decide) d rfl λb o g=>?_)));refine⟨_,g 0 _ rfl,_,g 1 _ rfl,_,g 2 _ rfl,_,g 3 _ rfl,_,g 4 _ rfl,_,g 5 _ rfl,_,g 6 _ rfl,?_⟩;exact ZlS (f:=a) (k.2.1 a (Axo d)) λh' m=>Za (l h' m)
theorem ZEN{z:VTR}{r:RulesP}{S:Nat->Prop}(k:Yn h S z r)(l:Go.Proofs.YtonbfpnngkemiaaGreat.Rw.RulesP.fit r){gb:Nat}{T:TypeId}(c:obj h gb=some (.cells (Zjw z).toArray T (0,0))){j e:Nat}(he:(r.ho.map ZdX.err)[j]?=some e){K:Int->HP}(m:∀h',Ext h h'->K e h'):
    ZFD (clG 200 gb) j K h:=by
  obtain⟨a,d,rfl⟩:=Zsp he;obtain⟨t,h1,n,h3⟩:=k.ho;rw[<-h1,Awy,Aza]at d;obtain⟨p,d,rfl⟩:=d;refine .inr (.inr (.inl ⟨(At gb,()),rfl,?_⟩));unfold Zce ZgH;refine Za (Zi (rL (s:=z.2.2.1) (Zb c rfl) (ZnE (c:=ZjI) (λ_=>rfl) n.1 (by decide) d rfl λb o g=>?_)));refine⟨_,g 0 _ rfl,_,g 1 _ rfl,_,g 2 _ rfl,_,g 3 _ rfl,p.1,g 4 _ rfl,?_⟩;have hm:=Axo d;have i:=l.2.2.1 p.2 (by rw[<-h1];exact Axz.2 ⟨p,hm,rfl⟩);exact Zn7 (f:=p.2) (x:=p.1) i.1 i.2 (h3 p hm).1 λh' q=>Za (m h' q)
theorem ZEM{z:VTR}{r:RulesP}{S:Nat->Prop}(d:Yn h S z r){gb:Nat}{T:TypeId}(c:obj h gb=some (.cells (Zjw z).toArray T (0,0))){j e:Nat}(he:(r.sy.map Zas.err)[j]?=some e){K:Int->HP}(i:∀h',Ext h h'->K e h'):
    ZFD (clG 201 gb) j K h:=by
  obtain⟨a,k,rfl⟩:=Zsp he;refine .inr (.inr (.inr (.inl ⟨(At gb,()),rfl,?_⟩)));unfold Zcd ZgG;refine Za (Zi (rL (s:=z.2.2.2.1) (Zb c rfl) (ZnE (c:=ZdB) (λ_=>rfl) d.sy.1 (by decide) k rfl λb o g=>?_)));refine⟨_,g 0 _ rfl,_,g 1 _ rfl,_,g 2 _ rfl,_,g 3 _ rfl,_,g 4 _ rfl,?_⟩;exact ZoR (f:=a) λh' l=>Za (i h' l)
theorem ZEL{z:VTR}{r:RulesP}{S:Nat->Prop}(i:Yn h S z r)(k:Go.Proofs.YtonbfpnngkemiaaGreat.Rw.RulesP.fit r){gb:Nat}{T:TypeId}(c:obj h gb=some (.cells (Zjw z).toArray T (0,0))){j e:Nat}(he:(r.li.map Zbi.err)[j]?=some e){K:Int->HP}(l:∀h',Ext h h'->K e h'):
    ZFD (clG 203 gb) j K h:=by
  obtain⟨a,d,rfl⟩:=Zsp he;obtain⟨q,h1,m,h3⟩:=i.li;rw[<-h1,Awy,Aza]at d;obtain⟨p,d,rfl⟩:=d;refine .inr (.inr (.inr (.inr (.inl ⟨(At gb,()),rfl,?_⟩))));unfold Zcc ZgF;refine Za (Zi (rL (s:=z.2.2.2.2.1) (Zb c rfl) (ZnE (c:=Zhp) (λ_=>rfl) m.1 (by decide) d rfl λb o g=>?_)));refine⟨_,g 0 _ rfl,_,g 1 _ rfl,p.1,g 2 _ rfl,?_⟩;have hm:=Axo d;exact ZhW (f:=p.2) (x:=p.1) (k.2.2.2 p.2 (by rw[<-h1];exact Axz.2 ⟨p,hm,rfl⟩)) (h3 p hm).1 λh' n=>Za (l h' n)
def ZHE(p:Nat×List Nat×Value):List Value:=[i8 p.1,i64 (p.2.1.length:Int),p.2.2]
def ZsS(r:RulesP)(gb:Nat):List (Nat×List Nat×Value):=[(1,r.fl.map FlowP.err,clG 197 gb),(2,r.br.map YK.err,clG 199 gb),(3,r.ho.map ZdX.err,clG 200 gb),(4,r.sy.map Zas.err,clG 201 gb),(5,r.li.map Zbi.err,clG 203 gb)]
theorem ZtI{z:VTR}{r:RulesP}{S:Nat->Prop}(a:Yn h S z r){K:Sl->HP}
    (e:∀x gb h',Ext h h'->obj h' gb=some (.cells (Zjw z).toArray 39 (0,0))->Row h' x 3 ((ZsS r gb).flatMap ZHE)->K x h'):ZdZ z K h:=by
  unfold ZdZ Zic;refine ZF λh1 c1 f C=>?_;have cb:obj h1 h.size=some (.cells (Zjw z).toArray 39 (0,0)):=c1;refine rL (s:=z.1) (Zb cb rfl) ⟨rfl,rL (s:=z.2.1) (Zb cb rfl) ⟨rfl,rL (s:=z.2.2.1) (Zb cb rfl) ⟨rfl,rL (s:=z.2.2.2.1) (Zb cb rfl) ⟨rfl,rL (s:=z.2.2.2.2.1) (Zb cb rfl) ⟨rfl,ZF λg b d D=>?_⟩⟩⟩⟩⟩;have j:=Zmd (c:=ZcR) (n:=12) (λ_=>rfl) a.fl.1 (by decide);have k:=Zmd (c:=ZbN) (n:=7) (λ_=>rfl) a.br.1 (by decide);have l:=Zmd (c:=ZdB) (n:=5) (λ_=>rfl) a.sy.1 (by decide);obtain⟨m,o,p,E⟩:=a.ho;obtain⟨q,t,u,F⟩:=a.li;have w:=Zmd (c:=ZjI) (n:=5) (λ_=>rfl) p.1 (by decide);have y:=Zmd (c:=Zhp) (n:=3) (λ_=>rfl) u.1 (by decide);have A:m.length=r.ho.length:=by rw[<-o];simp
  have B:q.length=r.li.length:=by rw[<-t];simp
  rw[j,k,w,l,y,A,B]at b;refine e _ h.size g (f.trans d) (Zj cb d) ⟨rfl,Aqo _,by show 5<_;omega,.inr ⟨_,0,rfl,Zgu b λi v hi=>?_⟩⟩;rw[Awb];simpa[ZsS,ZHE,i8,i64,Ayv]using hi
theorem Zvz{z:VTR}{r:RulesP}{S:Nat->Prop}(hr:Yn h S z r)(hf:Go.Proofs.YtonbfpnngkemiaaGreat.Rw.RulesP.fit r){K:Int->Int->Int->HP}(D:∀h' (p:Nat×Nat×Nat),p=r.whereE->Ext h h'->K p.1 p.2.1 p.2.2 h'):ZgX z K h:=by
  unfold ZgX Zi8;refine ZF λh1 c1 e1 z1=>Za (Za (Za ?_));have cb:obj h1 h.size=some (.cells (Zjw z).toArray 39 (0,0)):=c1;refine rL (s:=z.1) (Zb cb rfl) (rL (s:=z.2.1) (Zb cb rfl) (rL (s:=z.2.2.1) (Zb cb rfl) (rL (s:=z.2.2.2.1) (Zb cb rfl) (rL (s:=z.2.2.2.2.1) (Zb cb rfl) (ZtI (z:=z) (hr.ext e1) λx gb G ae cg row=>?_)))));have f:=e1.trans ae;have hx:x.len=5:=Zmd (c:=ZHE) (n:=3) (λ_=>rfl) row (by decide);have af:(ZsS r gb).map (·.2.1)=r.errs:=rfl
  have E:∀(i:Nat) p,(ZsS r gb)[i]?=some p->p.1=i+1:=λi p d=>by
    match i,d with
    | 0,d=>cases d;rfl
    | 1,d=>cases d;rfl
    | 2,d=>cases d;rfl
    | 3,d=>cases d;rfl
    | 4,d=>cases d;rfl
    |n+5,d=>cases d
  have C:∀(i:Nat) p,(ZsS r gb)[i]?=some p->r.errs[i]?=some p.2.1:=λi p d=>by rw[<-af,Awy,d];rfl
  have F:∀(i:Nat) p,(ZsS r gb)[i]?=some p->Zs p.2.2=true:=λi p d=>by
    have hm:=Axo d;simp only[ZsS,Awr,Ayk,or_false]at hm
    rcases hm with rfl|rfl|rfl|rfl|rfl<;>rfl
  have H:∀p,p∈ZsS r gb->∀{h':Zf} {j e:Nat} {K:Int->HP},Ext G h'->p.2.1[j]?=some e->(∀h'',Ext h' h''->K e h'')->ZFD p.2.2 j K h':=λp d h' j e K e' he k=>by
    have P:=hr.ext (f.trans e');have c:=Zj cg e';simp only[ZsS,Awr,Ayk,or_false]at d
    rcases d with rfl|rfl|rfl|rfl|rfl
    ·exact ZEP P hf c he k
    ·exact ZEO P hf c he k
    ·exact ZEN P hf c he k
    ·exact ZEM P c he k
    ·exact ZEL P hf c he k
  have aA:(ZsS r gb).length=5:=rfl;refine YL (λp h'=>Ext G h'/\∃i:Nat,p.1=i/\i<=5/\Zo0 (r.errs.drop i) (i+1)=Zo0 r.errs 1) (λp _=>(5-p.1).toNat) ⟨Ext.refl _,0,rfl,Ayg _,rfl⟩ ?_;rintro⟨i_,u⟩ ag ⟨w,i,hi,ah,Q⟩;dsimp only at hi⊢;subst hi;refine Zn (λR=>?_) λT=>?_
  ·have I:i<(ZsS r gb).length:=by omega
   obtain⟨p,d⟩:∃p,(ZsS r gb)[i]?=some p:=⟨(ZsS r gb)[i],Axy I⟩;have y:=C i p d;have J:=E i p d;refine ZnE (c:=ZHE) (λ_=>rfl) (row.ext w) (by decide) d rfl λb o g=>⟨_,g 0 _ rfl,_,g 1 _ rfl,_,g 2 _ rfl,ZF λaC ai aj aD=>ZOI ai (by show 3<=3;omega) (by show(true&&(true&&(Zs p.2.2&&true)))=true;rw[F i p d];rfl) λU V ak aE=>?_⟩;have A:Ext ag U:=aj.updS ak λj O=>by subst O;exact Aqo _
   have W:=f.trans (w.trans A);refine rI (Zb V rfl) (Zn (λaF=>rI (Zb V rfl) (Za (Za (Za ?_)))) λhle=>?_)
   ·rw [ZpE y,if_pos (by omega)]at Q
    have:r.whereE=(i+1,0,5):=by rw[Zqn];unfold ZrH;rw[<-Q]
    rw[J];exact D U (i+1,0,5) this.symm W
   ·rw[ZpE y,if_neg (by omega)]at Q;rw[Yw (by omega) (by omega)];exact⟨⟨w.trans A,i+1,rfl,by omega,Q⟩,by omega⟩
  ·have:i=5:=by omega
   subst this;have l:Zo0 r.errs 1=none:=by rw[<-Q];rfl
   have ay:=f.trans w;refine YL (λp h'=>Ext G h'/\∃i:Nat,p.1=i/\i<=5/\ZEY (r.errs.drop i) (i+1)=ZEY r.errs 1) (λp _=>(5-p.1).toNat) ⟨w,0,rfl,Ayg _,rfl⟩ ?_;rintro⟨i_,u⟩ X ⟨L,i,hi,ah,t⟩;dsimp only at hi⊢;subst hi;refine Zn (λR=>?_) λT=>Za (Za (Za ?_))
   ·have I:i<(ZsS r gb).length:=by omega
    obtain⟨p,d⟩:∃p,(ZsS r gb)[i]?=some p:=⟨(ZsS r gb)[i],Axy I⟩;have y:=C i p d;have J:=E i p d;have hm:=Axo d;refine ZnE (c:=ZHE) (λ_=>rfl) (row.ext L) (by decide) d rfl λb o g=>⟨_,g 0 _ rfl,_,g 1 _ rfl,_,g 2 _ rfl,ZF λaG al an aH=>ZOI al (by show 3<=3;omega) (by show(true&&(true&&(Zs p.2.2&&true)))=true;rw[F i p d];rfl) λY Z ao z35=>?_⟩;have M:Ext X Y:=an.updS ao λj O=>by subst O;exact Aqo _
    have m:=L.trans M
    have hlen:p.2.1.length<=256:=by
      have hn:∀(gs:List (List Nat)) (k:Nat),Zo0 gs k=none->∀es,es∈gs->es.length<=256:=by
        intro gs
        induction gs with
        |nil=>intro k _ es h;cases h
        | cons a gs ih=>
          intro k D es C;simp only[Zo0]at D;split at D
          ·cases D
          ·rcases Awr.1 C with rfl|h
           ·omega
           ·exact ih _ D es h
      exact hn _ _ l _ (Axo y)
    rw[ZyD y]at t;refine rI (Zb Z rfl) (YL (λq h'=>Ext Y h'/\∃j:Nat,q.1=j/\j<=p.2.1.length/\Zbh id (p.2.1.drop j) j=Zbh id p.2.1 0) (λq _=>(p.2.1.length- q.1).toNat) ⟨Ext.refl _,0,rfl,Ayg _,rfl⟩ ?_);rintro⟨j_,u⟩ aK ⟨B,j,O,aL,v⟩;dsimp only at O⊢;subst O;have aa:=Zj Z B;refine Zn (λR=>Za ?_) λT=>?_
    ·have aq:j<p.2.1.length:=by omega
     obtain⟨e,he⟩:∃e,p.2.1[j]?=some e:=⟨p.2.1[j],Axy aq⟩;refine rV (n:=p.2.2) (Zb aa rfl) ?_;refine H p hm (m.trans B) he λar N=>Za (Zq1 (λaM=>?_) λheq=>?_)
     ·have au:=Zj aa N;refine rI (Zb au rfl) (Za (Za (Za ?_)));rw[Zol he,if_neg (by omega)]at v;rw[<-v]at t
      have:r.whereE=(i+1,j,e):=by
        rw[Zqn];unfold ZrH;rw[l,<-t];rfl
      rw[J];exact D ar (i+1,j,e) this.symm (f.trans (m.trans (B.trans N)))
     ·rw[Zol he,if_pos (by omega)]at v;rw[Yw (by omega) (by omega)];exact⟨⟨B.trans N,j+1,rfl,by omega,v⟩,by omega⟩
    ·have:j=p.2.1.length:=by omega
     subst this;rw[List.drop_length]at v;rw[<-v]at t;rw[Yw (by omega) (by omega)];exact⟨⟨m.trans B,i+1,rfl,by omega,t⟩,by omega⟩
   ·have:i=5:=by omega
    subst this
    have:r.whereE=(0,0,0):=by
      rw[Zqn];unfold ZrH;rw[l,<-t];rfl
    exact D X (0,0,0) this.symm (f.trans L)
end
end Go.Proofs.YtonbfpnngkemiaaGreat.Rw
namespace Go.Proofs.YtonbfpnngkemiaaGreat
open Go Go.Fw Go.Js
def ZOW(p:BL×Int):KI:=(Zu p.1,p.2)
theorem ZuC(l:List (BL×Int)):(l.map ZOW).flatMap kiL=Rw.Zds l:=by
  unfold Rw.Zds
  induction l with
  |nil=>rfl
  |cons a l b=>rw[Awo,Aye,Aye,b];rfl
theorem ZmJ{h:Zf}{s:Sl}{l:List KI}(hs:Row h s 2 (l.flatMap kiL))(hl:l.length<=100000000){K:Sl->Zf->Prop}
    (i:∀t h',Own h' h.size t 2 (l.flatMap kiL)->Ext h h'->K t h'):ZO s K h:=by
  unfold ZO XB;have d:=Y2 ZqV hs (by decide);refine⟨λq=>?_,λq=>?_⟩
  ·rcases hs.at_ with h0|⟨b,o,j,r⟩
   ·have:l=[]:=Aqr (by omega);subst this;exact i _ _ (Own.nil _ _ _) (Ext.refl h)
   ·rw[j]at q;cases q
  ·rw [ZiU];have e:Ext h (h.push (.cells ([]:List Value).toArray 74 (0,0))):=Ext.push _ _;refine(hs.ext e).rd ?_;have ho:Own (h.push (.cells ([]:List Value).toArray 74 (0,0))) h.size ⟨some ⟨sz h,0,none⟩,0,0⟩ 2 []:=⟨rfl,Aqo _,(by show 0<9223372036854775808;decide),.inr ⟨sz h,#[],74,rfl,Aqo _,Zdi,rfl,rfl⟩⟩
   have a:(l.flatMap kiL).all Zs=true:=by
     rw[Axb];intro v hv;obtain⟨t,_,hv⟩:=List.mem_flatMap.1 hv;exact Axb.1 (ZEs t) v hv
   refine Own.app ho (by rw[YN ZqV,d]) a rfl (by show(0+s.len)*24<=140737488355328;omega) (by show 0+s.len<=140737488355328;omega) (show h.size<=_ from e.size) λt m f n g p=>?_;refine i t m ?_ (e.then g λk c=>?_)
   ·simpa using f
   ·simp[Sl.blk]at c;rw[YR,<-c];exact Aqo _
def HtS.new(f:ZdX)(most seed:Int):HtS:=⟨Zu f.res,f.index,f.cnt,f.secs,f.items.map ZOW,most,[],λ_=>⟨0,λ_=>z6⟩,Sk.new (f.secs*100000) seed,0⟩
theorem ZuE{f:ZdX}(he:f.err=0):(1<=f.secs/\f.secs<=60)/\f.items.length<=32:=by
  unfold ZdX.err at he;split at he
  ·split at he
   ·rename_i _ a;unfold ZdX.good Js.inJ at a;simp only[Awn,decide_eq_true_eq]at a;omega
   ·cases he
  ·cases he
theorem Zzd{f:ZdX}(he:f.err=0)(hl:f.res.length<9223372036854775807){most seed:Int}(hm:1<=most/\most<=4096){h:Zf}{x:Sl}(X:Row h x 2 (Rw.Zds f.items)){K:Option Addr->Int->Zf->Prop}
    (hk:∀h' p T,HtR h' p T (HtS.new f most seed)->(∀j,T j≠none->sz h<=j)->Ext h h'->K (some ⟨p,0,none⟩) 0 h'):Zj4 (Rw.ZFy x f) most seed K h:=by
  obtain⟨hs,hi⟩:=ZuE he;unfold Zj4 Zoe;refine ZF λh1 c1 Y z1=>Za (rS (Zb c1 rfl) (rI (Zb c1 rfl) (rI (Zb c1 rfl) (rI (Zb c1 rfl) (rL (Zb c1 rfl) (Rw.Zn7 (f:=f) (x:=x) hl (by omega) (X.ext Y) λc J=>Za ?_))))));rw[he];refine Zh rfl (Zza hm λh3 Z e3=>Za (Zh rfl ?_));have c3:=Zj (Zj c1 J) e3;have B:=(Y.trans J).trans e3;refine rL (Zb c3 rfl) (ZmJ (l:=f.items.map ZOW) (by rw[ZuC];exact X.ext B) (by rw[Ayv];omega) λt i o4 G=>?_);have c4:=Zj c3 G;refine ZcS c4 (show 0+4<5 by decide) XC λg C u5 z5=>?_;refine rS (Zb C rfl) (rI (Zb C rfl) (rI (Zb C rfl) (rI (Zb C rfl) (rL (Zb C rfl) (Zm9.new λq m6 e6 L=>ZF λM w N z7=>?_)))));refine rS (Zb w rfl) (rI (Zb w rfl) (rI (Zb w rfl) (rI (Zb w rfl) (rL (Zb w rfl) (Zpc hs λo D=>?_)))));rw[show f.secs*1000000=f.secs*100000*10 by omega];refine Zv1 (d:=f.secs*100000) (by omega) λz s9 H z9=>?_;have c9:=Zj (Zj w D) H;refine ZcS c9 (show 0+7<9 by decide) rfl λm O r P=>Za (Za ?_);have b1:sz h1=sz h+1:=z1;have au:sz h1<=sz c:=J.size
  have av:sz c+2<=sz h3:=by
    have z:=Z.ex;obtain⟨nd,mb,pv,nx,f9,_,hM⟩:=z;exact hM.lt _ hM.os
  have aw:sz h3<=sz i:=G.size;have ax:sz g=sz i:=z5;have ay:sz q=sz g+1:=L;have az:sz M=sz q+1:=z7;have aA:sz M<=sz o:=D.size;have aB:sz z=sz o+1:=z9;have aC:sz m=sz z:=P;have aD:h3.size=sz h3:=rfl;have aE:i.size=sz i:=rfl;have aF:g.size=sz g:=rfl;have aG:q.size=sz q:=rfl;have u:=λ(b:Nat) (p:t.blk=some b)=>o4.lt p
  have kp:∀(j:Nat) {y:Obj},sz c<=j->obj i j=some y->obj m j=some y:=λj {y} a A=>by
    have l4:=Zp A;have I:obj g j=some y:=Y0 A u5 (by have:h.size=sz h:=rfl;omega);exact Y0 (Zj (Zj (Zj (Zj I e6) N) D) H) r (by omega)
  have kq:∀j,sz c<=j->j<sz i->obj m j=obj i j:=λj a Q=>by
    cases A:obj i j with
    | none=>
      have:j<i.size:=Q;rw[show obj i j=i[j]? from rfl,Array.getElem?_eq_getElem this]at A;cases A
    |some y=>exact kp j a A
  let T:Nat->Option HTag:=λj=>if j=sz q then some .me else if j=sz g then some .map else if j=sz o then some .sk else if j=sz c\/j=sz c+1 then some .lru else if t.blk=some j then some .items else none
  have R:T (sz q)=some .me:=if_pos rfl;have E:T (sz g)=some .map:=by show(if _ then _ else _)=_;rw[if_neg (by omega),if_pos rfl]
  have S:T (sz o)=some .sk:=by show(if _ then _ else _)=_;rw[if_neg (by omega),if_neg (by omega),if_pos rfl]
  have F:∀j,j=sz c\/j=sz c+1->T j=some .lru:=λj a=>by show(if _ then _ else _)=_;rw[if_neg (by omega),if_neg (by omega),if_neg (by omega),if_pos a]
  have U:∀b,t.blk=some b->T b=some .items:=λb p=>by
    have:=u b p;show(if _ then _ else _)=_;rw[if_neg (by omega),if_neg (by omega),if_neg (by omega),if_neg (by omega),if_pos p]
  have s:∀j,T j≠none->sz h<=j/\j<sz m:=λj a=>by
    by_cases q1:j=sz q
    ·omega
    by_cases q2:j=sz g
    ·omega
    by_cases q3:j=sz o
    ·omega
    by_cases v:j=sz c\/j=sz c+1
    ·omega
    by_cases I:t.blk=some j
    ·have:=u j I;omega
    ·exfalso;apply a;show(if _ then _ else _)=_;rw[if_neg q1,if_neg q2,if_neg q3,if_neg v,if_neg I]
  have V:∀j,T j=some .lru->j=sz c\/j=sz c+1:=λj a=>by
    by_cases v:j=sz c\/j=sz c+1
    ·exact v
    ·exfalso;change (if _ then _ else _)=_ at a;rw[if_neg v]at a;split at a
     ·cases a
     ·split at a
      ·cases a
      ·split at a
       ·cases a
       ·split at a<;>cases a
  have ak:∀j,T j=some .sk->j=sz o:=λj a=>by
    by_cases v:j=sz o
    ·exact v
    ·exfalso;change (if _ then _ else _)=_ at a;rw[if_neg v]at a;split at a
     ·cases a
     ·split at a
      ·cases a
      ·split at a
       ·cases a
       ·split at a<;>cases a
  have W:=(((m6.congr (N.old _ m6.lt)).congr (D.old _ (by show g.size<sz M;omega))).congr (H.old _ (by show g.size<sz o;omega))).congr (r.old _ (by show g.size<sz z;omega) (by omega));refine hk m (sz q) T ⟨⟨t,sz c+1,sz g,sz o,_,_,λ_=>(0,0),⟨none,0,0⟩,[],O,R,hs,?_,U,?_,W,E,λk n=>(by cases n),λk _=>rfl,?_,λj a=>(s j a).2⟩⟩ (λj a=>(s j a).1) ?_
  ·refine(o4.base (Ayg _)).congr λb p _ _=>?_;have:=u b p;exact kq b (by omega) this.2
  ·refine Z.congr (λj a=>F j a) (λj a=>(s j (by rw[a];exact λe=>by cases e)).2) λj a=>?_;rw[kq j (by omega) (by omega)];exact ZQ G (by omega)
  ·refine s9.congr (λj a=>by rw[a];exact S) (λj a=>(s j (by rw[a];exact λe=>by cases e)).2) λj a=>?_;rw[a];exact r.old _ (by show sz o<sz z;omega) (by omega)
  ·refine (((((((B.trans G).then u5 λk n=>?_).trans e6).trans N).trans D).trans H).then r λk n=>?_)
   ·rw[n];exact Aqo _
   ·rw[n];show sz h<=sz q;omega
abbrev ShS:=Option Pc×Option Wm
def ShS.new(f:FlowP):ShS:=(if f.shape=2\/f.shape=3 then some (0,false,f.cnt,f.queue,0,())else none,if f.shape=1\/f.shape=3 then some (Wm.new f.cnt f.warm)else none)
def Zyn(h:Zf)(O:Nat->Prop)(p:Option Addr):Option Pc->Prop
  |none=>p=none
  |some x=>∃b,p=some ⟨b,0,none⟩/\obj h b=some (pcO x)/\O b
def ZB8(h:Zf)(O:Nat->Prop)(p:Option Addr):Option Wm->Prop
  |none=>p=none
  |some x=>∃b,p=some ⟨b,0,none⟩/\obj h b=some (wmO x)/\O b
theorem Zyn.congr{h h':Zf}{O O':Nat->Prop}{p:Option Addr}:∀{x:Option Pc},Zyn h O p x->(∀j,O j->j<sz h->O' j)->(∀j,O j->j<sz h->obj h' j=obj h j)->Zyn h' O' p x
  |none,a,_,_=>a
  |some x,⟨b,e,c,o⟩,h1,d=>⟨b,e,(d b o (Zp c)).trans c,h1 b o (Zp c)⟩
theorem ZB8.congr{h h':Zf}{O O':Nat->Prop}{p:Option Addr}:∀{x:Option Wm},ZB8 h O p x->(∀j,O j->j<sz h->O' j)->(∀j,O j->j<sz h->obj h' j=obj h j)->ZB8 h' O' p x
  |none,a,_,_=>a
  |some x,⟨b,e,c,o⟩,h1,d=>⟨b,e,(d b o (Zp c)).trans c,h1 b o (Zp c)⟩
abbrev ShR(h:Zf)(O:Nat->Prop)(p:Option Addr×Option Addr)(s:ShS):Prop:=Zyn h O p.1 s.1/\ZB8 h O p.2 s.2
theorem Zyu{f:FlowP}(he:f.err=0):f.shape<=3/\(f.shape≠0->1<=f.cnt)/\(0<=f.cnt/\f.cnt<=1099511627776)/\(f.shape=1\/f.shape=3->1<=f.warm/\f.warm<=3600)/\(f.shape=2\/f.shape=3->0<=f.queue/\f.queue<=3600000000):=by
  unfold FlowP.err at he;split at he
  case isFalse=>cases he
  split at he
  case isFalse=>cases he
  rename_i _ a;unfold FlowP.good Js.onlyIf Js.inJ at a;simp only[Awn,decide_eq_true_eq,Bool.or_eq_true]at a;obtain⟨⟨⟨⟨⟨⟨⟨b,d⟩,a3,a4⟩,_⟩,_⟩,a5,c⟩,_⟩,_,_⟩:=a;refine⟨a4,λh=>?_,⟨?_,d⟩,λh=>?_,λh=>?_⟩
  ·rw[if_neg h]at b;exact b
  ·split at b<;>omega
  ·rw[if_pos h]at a5;simpa using a5
  ·rw[if_pos h]at c;simpa using c
theorem Zty{f:FlowP}(he:f.err=0){h:Zf}{K:(Option Addr×Option Addr×Unit)->Zf->Prop}(R:∀h' p O,ShR h' O p (ShS.new f)->(∀j,O j->sz h<=j/\j<sz h')->Ext h h'->K (p.1,p.2,()) h'):ZbF (Rw.ZaL f) K h:=by
  obtain⟨hs,x,J,hw,S⟩:=Zyu he;unfold ZbF ZfW;refine ZF λh1 c1 T U=>ZF λa V L X=>ZF λh3 M B z3=>?_;have b1:sz h1=sz h+1:=U;have b2:sz a=sz h1+1:=X;have b3:sz h3=sz a+1:=z3;have d:=Zj (Zj c1 L) B;have C:=Zj V B;have y:=(T.trans L).trans B;refine ZoF (λ(_:Unit) c=>∃P:Option Addr,obj c (sz a)=some (.cells [.pointer P,.pointer none].toArray 162 (0,0))/\Ext h c/\Upd (· = sz a) h3 c/\Zyn c (λj=>sz a<j) P (ShS.new f).1) ?_ λQ N=>?_
  ·rintro _ c ⟨P,cp,ex,D,Y⟩;have e:=Y0 d D (by show ¬sz h=_;omega);have E:=Y0 C D (by show ¬sz h1=_;omega);have bx:sz h3<=sz c:=D.size
   have fin:∀{g t:Zf} {W:Option Addr},obj g (sz a)=some (.cells [.pointer P,.pointer W].toArray 162 (0,0))->Ext c t->Upd (· = sz a) t g->ZB8 g (λj=>sz a<j) W (ShS.new f).2->ldP g (sz a) 0 λt28=>ldP g (sz a) (0+1) λt29=>sts g (sz h1) 0 [.pointer t28,.pointer t29] λb=>ldP b (sz h1) 0 λt31=>ldP b (sz h1) (0+1) λt32=>K (t31,t32,()) b:=by
     intro g t W u Z F hW;have A:Upd (· = sz a) c g:=(Z.upd _).trans F;refine rP (Zb u rfl) (rP (Zb u rfl) (ZaN (Y0 E A (by show ¬sz h1=sz a;omega)) λz v o z5=>rP (Zb v rfl) (rP (Zb v rfl) ?_)));have b4:sz c<=sz g:=A.size;have b5:sz z=sz g:=z5;refine R z (P,W) (λj=>sz a<j/\j<sz z) ⟨?_,?_⟩ (λj i=>by omega) ?_
     ·exact(Y.congr (h':=g) (O':=λj=>sz a<j/\j<sz c) (λj i hl=>⟨i,hl⟩) λj i hl=>A.old j hl (by show ¬j=sz a;have t:sz a<j:=i;omega)).congr (λj i hl=>⟨i.1,by omega⟩) λj i hl=>o.old j hl (by show ¬j=sz h1;have t:=i.1;omega)
     ·exact hW.congr (λj i hl=>⟨i,by omega⟩) λj i hl=>o.old j hl (by show ¬j=sz h1;have t:sz a<j:=i;omega)
     ·exact(ex.then A λk l=>by rw[l];show sz h<=sz a;omega).then o λk l=>by rw[l];show sz h<=sz h1;omega
   have m:f.shape=1\/f.shape=3->Zgo f.cnt f.warm (λt24 t25 G=>st G (sz a) (0+1) (.pointer t24) λr=>ldP r (sz a) 0 λt28=>ldP r (sz a) (0+1) λt29=>sts r (sz h1) 0 [.pointer t28,.pointer t29] λb=>ldP b (sz h1) 0 λt31=>ldP b (sz h1) (0+1) λt32=>K (t31,t32,()) b) c:=λq=>by
     refine Zy0 ⟨x (by omega),J.2⟩ (hw q) λg u w z4=>ZcS (Zj cp w) (show 0+1<2 by decide) rfl λz v o z5=>?_
     exact fin v w o (by
       show ZB8 _ _ _ (if _ then _ else _);rw[if_pos q]
       exact⟨sz c,rfl,Y0 u o (by show ¬sz c=sz a;omega),by show sz a<sz c;omega⟩)
   have hn:¬(f.shape=1\/f.shape=3)->ldP c (sz a) 0 λt28=>ldP c (sz a) (0+1) λt29=>sts c (sz h1) 0 [.pointer t28,.pointer t29] λb=>ldP b (sz h1) 0 λt31=>ldP b (sz h1) (0+1) λt32=>K (t31,t32,()) b:=λq=>fin cp (Ext.refl _) (Upd.refl _ _) (by
       show ZB8 _ _ _ (if _ then _ else _);rw[if_neg q]
       exact rfl)
   refine rI (Zb e rfl) (Ym (λq=>rI (Zb e rfl) (rI (Zb e rfl) (m (.inl (by have:(f.shape:Int)=1:=q;omega))))) λq=>rI (Zb e rfl) (Ym (λs=>rI (Zb e rfl) (rI (Zb e rfl) (m (.inr ?_)))) λs=>hn ?_))
   ·have:(f.shape:Int)=3:=s;omega
   ·have h1:¬(f.shape:Int)=1:=q;have h3:¬(f.shape:Int)=3:=s;omega
  ·have n:f.shape=2\/f.shape=3->Zgq f.cnt f.queue (λt9 t10 H=>st H (sz a) 0 (.pointer t9) λI=>Q () I) h3:=λq=>by
     refine Zy6 ⟨x (by omega),J.2⟩ (S q) λg u w z4=>ZcS (Zj M w) (show 0<2 by decide) rfl λz v o z5=>N _ _ ⟨some ⟨sz h3,0,none⟩,v,(y.trans w).then o λk l=>?_,?_,?_⟩
     ·rw[l];show sz h<=sz a;omega
     ·exact(w.upd _).trans o
     ·show Zyn _ _ _ (if _ then _ else _);rw[if_pos q];exact⟨sz h3,rfl,Y0 u o (by show ¬sz h3=sz a;omega),by show sz a<sz h3;omega⟩
   refine rI (Zb d rfl) (Ym (λq=>rI (Zb d rfl) (rI (Zb d rfl) (n (.inl ?_)))) λq=>rI (Zb d rfl) (Ym (λs=>rI (Zb d rfl) (rI (Zb d rfl) (n (.inr ?_)))) λs=>N _ _ ⟨none,M,y,Upd.refl _ _,?_⟩))
   ·have:(f.shape:Int)=2:=q;omega
   ·have:(f.shape:Int)=3:=s;omega
   ·have h1:¬(f.shape:Int)=2:=q;have h3:¬(f.shape:Int)=3:=s;show Zyn _ _ _ (if _ then _ else _);rw[if_neg (by omega)];exact rfl
end Go.Proofs.YtonbfpnngkemiaaGreat
