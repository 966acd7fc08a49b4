/- A member is put behind an object's; an array is made of values (json.Put, json.List). -/
import Derived.Test.YtpjbjdheeemdiaaGreatDoorPa16
set_option linter.unusedVariables false
set_option linter.unusedSimpArgs false
namespace Go.Proofs.YtpjbjdheeemdiaaGreatDoor
open Go Go.Fw Go.Js
section
variable {h:Zc}
theorem Zsn {z:VT5} {v:JV} {S:Nat->Prop} {K:VT5->HP} (hw:wV v<=1000000000000) (a:ZaS h S z v) (b:∀ j,S j->j<sz h) (c:∀ z' h',Ext h h'->ZaS h' (fr h' (sz h)) z' v->K z' h'):ZbR z K h :=
  ⟨v.sub.hei+1,ZtH v.sub.hei (Aqo _) hw a b c⟩
theorem ZdK {x:Sl} {l:JL} {d:List Value} {S:Nat->Prop} (q:Row h x 4 d) (f:inS S x) (g:XC h S l d) (r:∀ j,S j->j<sz h) (hw:pw l<=999999999000) {K:VT5->HP} (s:∀ z' h',Ext h h'->ZaS h' (fr h' (sz h)) z' ⟨6,[],[],l⟩->K z' h'):Xl x K h:=by
  unfold Xl ZjU
  refine YZ fun c t i z=>?_
  have A:sz h=h.size:=rfl
  have s1:sz c=c.size:=rfl
  have k:obj c h.size=some (.cells zV.toArray 33 (0,0)):=t
  have u:ZaS c S (6,ByteArray.mk #[],x,⟨none,0,0⟩,()) ⟨6,[],[],l⟩:=⟨rfl,rfl,Row.nil _ _,Zc4,d,q.ext i,f,g.keep (fun b _ a=>Zu i a) fun _ h=>h⟩
  refine Zsn (v:=⟨6,[],[],l⟩) (by simp only [wV,nsW,Ays];omega) u (fun j n=>by have:=r j n;omega) fun z2 B o m=>?_
  refine ZbF (x:=z2.2.2.1) (y:=z2.2.2.2.1) (Zn k o) rfl fun w p z3=>s _ w ((i.trans o).updS p fun j n=>by omega) ?_
  exact m.keep (fun b a g=>Zt p g fun e=>by have:=a.1;omega) fun b a=>⟨by have:=a.1;omega,by have:=a.2;omega⟩
theorem ZAV {z G:VT5} {v p:JV} {S:Nat->Prop} {nm:BL} (hv:ZaS h S z v) (hp:ZaS h S G p) (hS:∀ j,S j->j<sz h) (aS:v.k=7) (hw:wV ⟨7,v.t,v.ns++[nm],v.sub.snoc p⟩<=999999999000) {K:VT5->HP}
    (hk:∀ z' h',Ext h h'->ZaS h' (fr h' (sz h)) z' ⟨7,v.t,v.ns++[nm],v.sub.snoc p⟩->K z' h'):Zhj z (Zj nm) G K h:=by
  unfold Zhj Zle
  refine YZ fun h1 c1 e1 z1=>YZ fun Y c3 e3 z3=>YZ fun h5 c5 e5 z5=>?_
  have s0:sz h=h.size:=rfl
  have s1:sz h1=h1.size:=rfl
  have s3:sz Y=Y.size:=rfl
  have s5:sz h5=h5.size:=rfl
  have aE:Ext h h5:=e1.trans (e3.trans e5)
  have cv:obj h5 h.size=some (.cells (Xq z).toArray 33 (0,0)):=Zn (Zn c1 e3) e5
  have cp:obj h5 h1.size=some (.cells (Xq G).toArray 33 (0,0)):=Zn c3 e5
  have cz:obj h5 Y.size=some (.cells zV.toArray 33 (0,0)):=c5
  obtain ⟨a1,a2,a3,a4,cx,a5,a6,a7⟩:=id hv
  have q:∀ {a:Zc},Ext h a->∀ j,S j->j<sz h->obj a j=obj h j:=fun e j O m=>Zu e m
  have bS:v.ns.length+1<=1000000000000:=by
    have:=ZyA (v.ns++[nm])
    simp only [wV] at hw
    simp at this
    omega
  have bT:z.2.2.1.len=v.sub.len:=by have:=a5.len;have:=a7.len;omega
  have bz:v.sub.len+1<=1000000000000:=by
    have:=Zey (v.sub.snoc p)
    rw [JL.len_snoc] at this
    simp only [wV] at hw
    omega
  refine ZO (fun _ h'=>h'=h5) ?_ (rI (Zb cv rfl) (Zl (by simp [a1,aS]) rfl))
  rintro ⟨⟩ w rfl
  refine rS (Zb cv rfl) (rL (s:=z.2.2.2.1) (Zb cv rfl) ?_)
  have aH:Row w z.2.2.2.1 1 (v.ns.map sV):=Ym a3 a4 (q aE)
  refine ZdY (fun d t h'=>Ext w h'/\(d 4=true->d 7=false->Own h' (sz w) t.1 1 (v.ns.map sV))/\(d 6=true->d 7=false->∃ b,t.2.1=⟨At b,1,1⟩/\sz w<=b/\Box h' b (sV nm)/\(d 4=true->t.1.blk≠some b)) /\
      (d 7=true->Own h' (sz w) t.2.2.1 1 ((v.ns++[nm]).map sV))/\(d 8=true->t.2.2.2.1=(7,z.2.1,⟨none,0,0⟩,t.2.2.1,())) /\
      (d 9=true->∃ b,t.2.2.2.2.1=At b/\sz w<=b/\obj h' b=some (.cells zV.toArray 33 (0,0))/\(d 4=true->d 7=false->t.1.blk≠some b)/\(d 7=true->t.2.2.1.blk≠some b))/\(d 8=true->d 7=true))
    (⟨none,0,0⟩,⟨none,0,0⟩,⟨none,0,0⟩,(0,ByteArray.empty,⟨none,0,0⟩,⟨none,0,0⟩,()),none,()) ⟨Ext.refl _,(fun e=>by cases e),(fun e=>by cases e),(fun e=>by cases e),(fun e=>by cases e),(fun e=>by cases e),(fun e=>by cases e)⟩ ?_ ?_
  ·rintro d ⟨t1,t2,t3,t4,t5,⟨⟩⟩ H ⟨A,q4,q6,q7,q8,q9,ab⟩
   dsimp only at q4 q6 q7 q8 q9
   have bU:sz H=H.size:=rfl
   have bA:=A.size
   have g:=Zn cv A
   refine ⟨?_,?_,?_,?_,?_,trivial⟩
   ·intro d4
    refine Zj2 (aH.ext A) (by omega) fun y bV P I=>?_
    refine ⟨hv4 (Zn g P) rfl,A.trans P,fun _ _=>I.base (by omega),fun d6 d7=>?_,fun d7=>(q7 d7).congr fun b _ f _=>Zu P f,q8,fun d9=>?_,ab⟩
    ·obtain ⟨b,r1,r2,E,r4⟩:=q6 d6 d7
     exact ⟨b,r1,r2,E.ext P,fun _ e=>by have:=(I.lt e).1;have:=E.lt;omega⟩
    ·obtain ⟨b,r1,r2,E,r4,Z⟩:=q9 d9
     exact ⟨b,r1,r2,Zn E P,fun _ _ e=>by have:=(I.lt e).1;have:=ZaK E;omega,Z⟩
   ·intro d6
    refine YZ fun bW aV J bX=>?_
    refine ⟨hv4 (Zn g J) rfl,hv4 (Zn g J) rfl,A.trans J,fun d4 d7=>(q4 d4 d7).congr fun b _ f _=>Zu J f,fun _ d7=>⟨H.size,rfl,by omega,⟨_,aV⟩,fun d4 e=>by have:=((q4 d4 d7).lt e).2;omega⟩,fun d7=>(q7 d7).congr fun b _ f _=>Zu J f,q8,fun d9=>?_,ab⟩
    obtain ⟨b,r1,r2,E,r4,Z⟩:=q9 d9
    exact ⟨b,r1,r2,Zn E J,r4,Z⟩
   ·intro d7 d4 d6 _
    have o4:=q4 d4 d7
    obtain ⟨b,rfl,r2,⟨Tb,E⟩,r4⟩:=q6 d6 d7
    have bY:t1.len=v.ns.length:=by have:=o4.len;simp at this;omega
    refine Zjm (n:=1) (size:=1) E rfl (o4.app (new:=[sV nm]) (n:=1) rfl rfl rfl (by omega) (by omega) (by omega) fun y av I hy af aX=>?_)
    have blt:∀ {j:Nat},t1.blk=some j->sz w<=j/\j<sz H:=fun e=>o4.lt e
    have aY:Ext w av:=A.updS af fun j O=>(blt O).1
    have aZ:Own av (sz w) y 1 ((v.ns++[nm]).map sV):=by simpa using I
    have aR:∀ {b:Nat} {o:Obj},obj H b=some o->b<sz w->obj av b=some o:=fun c f=>ZG c af fun e=>by have:=(blt e).1;omega
    have ak:=ZG g af fun e=>by have:=(blt e).1;omega
    refine ⟨hv4 ak rfl,hv4 ak rfl,aY,(fun _ e=>by cases e),(fun _ e=>by cases e),fun _=>aZ,fun d8=>?_,fun d9=>?_,fun _=>rfl⟩
    ·exfalso
     have:=ab d8
     rw [d7] at this
     cases this
    ·obtain ⟨b9,r1,ba,aJ,aK,Z⟩:=q9 d9
     refine ⟨b9,r1,ba,ZG aJ af (fun e=>aK d4 d7 e),(fun _ e=>by cases e),fun _ e=>?_⟩
     rcases aX with e2 | e2
     ·exact aK d4 d7 (e2▸e)
     ·rw [e2] at e
      have:=ZaK aJ
      cases e
      omega
   ·intro d8 d7
    exact ⟨hv4 g rfl,A,q4,q6,q7,fun _=>rfl,q9,fun _=>d7⟩
   ·intro d9
    refine YZ fun ca c20 L z20=>?_
    refine ⟨hv4 (Zn g L) rfl,hv4 (Zn g L) rfl,A.trans L,fun d4 d7=>(q4 d4 d7).congr fun b _ f _=>Zu L f,fun d6 d7=>?_,fun d7=>(q7 d7).congr fun b _ f _=>Zu L f,q8,fun _=>⟨H.size,rfl,by omega,c20,fun d4 d7 e=>by have:=((q4 d4 d7).lt e).2;omega,fun d7 e=>by have:=((q7 d7).lt e).2;omega⟩,ab⟩
    obtain ⟨b,r1,r2,E,r4⟩:=q6 d6 d7
    exact ⟨b,r1,r2,E.ext L,r4⟩
  ·rintro d ⟨t1,t2,t3,t4,t5,⟨⟩⟩ aL ⟨Q,_,_,q7,q8,q9,_⟩
   dsimp only at q7 q8 q9
   intro d4 d6 d7 d8 d9
   have o7:=q7 d7
   obtain ⟨ob,rfl,r2,E,_,Z⟩:=q9 d9
   have Z:=Z d7
   have bc:=q8 d8
   subst bc
   have cc:sz aL=aL.size:=rfl
   have R:=Zn cv Q
   refine ⟨hv4 R rfl,hv4 R rfl,Zo (ZfK E (by show 4<=4;omega) rfl fun r bd T cd=>?_)⟩
   have al:obj r ob=some (.cells (Xq (7,z.2.1,⟨none,0,0⟩,t3,())).toArray 33 (0,0)):=bd
   have bB:=ZaK E
   have an:=ZG R T (by omega)
   have B:=ZG (Zn cp Q) T (by omega)
   have ao:=ZG (Zn cz Q) T (by omega)
   have ag:Own r (sz w) t3 1 ((v.ns++[nm]).map sV):=o7.congr fun b f m _=>Zt T m fun e=>Z (e▸f)
   have cf:sz r=r.size:=rfl
   have C:Ext h r:=(aE.trans Q).updS T fun j O=>by omega
   have bC:ZaS r S G p:=hp.keep (fun b _ m=>Zu C m) fun _ h=>h
   have U:Row r z.2.2.1 4 cx:=Ym a5 a6 (q C)
   have bf:XC r S v.sub cx:=a7.keep (q C) fun _ h=>h
   have fin:∀ {h':Zc} {l:Sl},Ext h h'->obj h' ob=some (.cells (Xq (7,z.2.1,l,t3,())).toArray 33 (0,0))->Own h' (sz w) l 4 (cx++Xq G)->Own h' (sz w) t3 1 ((v.ns++[nm]).map sV)->obj h' Y.size=some (.cells zV.toArray 33 (0,0)) ->
       Ze (At ob) fun ah ai=>ldI h' ah ai .u8 fun t61=>ldS h' ah (ai+1) fun t62=>ldL h' ah (ai+2) fun t63=>ldL h' ah (ai+3) fun t64=>ZbR (t61,t62,t63,t64,()) (fun t65 bg=>sts bg Y.size 0 [.int .u8 t65.1,.string t65.2.1,.slice t65.2.2.1.ptr t65.2.2.1.len t65.2.2.1.cap,.slice t65.2.2.2.1.ptr t65.2.2.2.1.len t65.2.2.2.1.cap] fun V =>
        ldI V Y.size 0 .u8 fun t68=>ldS V Y.size (0+1) fun t69=>ldL V Y.size (0+2) fun t70=>ldL V Y.size (0+3) fun t71=>K (t68,t69,t70,t71,()) V) h':=by
     intro h' l e' co ol o3 aN
     have aO:∀ j,S j->j<sz h':=fun j O=>by have:=hS j O;have:=e'.size;have:sz h'=h'.size:=rfl;omega
     have bh:ZaS h' (fun j=>j<sz h') (7,z.2.1,l,t3,()) ⟨7,v.t,v.ns++[nm],v.sub.snoc p⟩ :=
       ⟨rfl,a2,o3.row,fun _ b f=>(o3.lt f).2,cx++Xq G,ol.row,fun _ b f=>(ol.lt f).2,XC.snoc (hp.keep (fun b _ m=>Zu e' m) aO) (a7.keep (q e') aO)⟩
     refine Zo (rI (Zb co rfl) (rS (Zb co rfl) (rL (s:=l) (Zb co rfl) (rL (s:=t3) (Zb co rfl) (Zsn (v:=⟨7,v.t,v.ns++[nm],v.sub.snoc p⟩) (by omega) bh (fun _ h=>h) fun z2 h2 e2 bj=>?_)))))
     have:=e'.size
     refine ZbF (x:=z2.2.2.1) (y:=z2.2.2.2.1) (Zn aN e2) rfl fun bk u3 cg=>hk _ bk ((e'.trans e2).updS u3 fun j O=>by omega) ?_
     have s':sz h'=h'.size:=rfl
     exact bj.keep (fun b f m=>Zt u3 m fun e=>by have:=f.1;have:=ZaK aN;omega) fun b f=>⟨by have:=f.1;omega,by have:=f.2;omega⟩
   refine ZO (fun _ h'=>Ext h h'/\∃ l,obj h' ob=some (.cells (Xq (7,z.2.1,l,t3,())).toArray 33 (0,0))/\Own h' (sz w) l 4 (cx++Xq G)/\Own h' (sz w) t3 1 ((v.ns++[nm]).map sV)/\obj h' Y.size=some (.cells zV.toArray 33 (0,0))) ?_ ?_
   ·rintro ⟨⟩ cj ⟨w1,l,w2,w3,w4,w5⟩
    exact fin w1 w2 w3 w4 w5
   ·have bF:=Q.size
    have one:=ZyS a7
    have F:∀ {y:Sl} {h':Zc} {b:Nat},Own h' b y 4 cx->y.len=v.sub.len:=fun o=>by have:=o.len;have:=a7.len;omega
    refine rL (s:=z.2.2.1) (Zb an rfl) (rI (Zb B rfl) (rS (Zb B rfl) (rL (s:=G.2.2.1) (Zb B rfl) (rL (s:=G.2.2.2.1) (Zb B rfl) ⟨?_,?_⟩))))
    ·refine ZnA U one (by omega) fun y aw M I=>⟨Zr2 (Zn B M),?_⟩
     have cr:sz aw=aw.size:=rfl
     have bG:=M.size
     refine YZ fun aP c40 W z40=>Zjm (l:=Xq G) c40 rfl ?_
     have bm:=F I
     have ct:sz aP=aP.size:=rfl
     refine ((I.base (base':=sz w) (by omega)).congr fun b _ f _=>Zu W f).app (n:=1) rfl (ZcA G) rfl (by omega) (by omega) (by omega) fun l8 bo o8 bq u8 b8=>?_
     have i:∀ {j:Nat},y.blk=some j->sz r<=j/\j<sz aw:=fun e=>I.lt e
     have X:=ZG (Zn al (M.trans W)) u8 fun e=>by have:=(i e).1;omega
     refine Zo (Zk2 X (by simp [Xq]) rfl fun bt c46 u z46=>?_)
     have ax:l8.blk≠some ob:=fun e=>by
       rcases b8 with h9 | h9
       ·have:=(i (h9▸e)).1;omega
       ·rw [h9] at e;cases e;omega
     refine ⟨((C.trans (M.trans W)).updS u8 fun j O=>by have:=(i O).1;omega).updS u fun j O=>by omega,l8,c46,o8.congr fun b f m _=>Zt u m fun e=>ax (e▸f),?_,?_⟩
     ·refine ((ag.congr fun b _ f _=>Zu (M.trans W) f).congr fun b f m _=>Zt u8 m fun e=>?_).congr fun b f m _=>Zt u m fun e=>?_
      ·have:=(i e).1;have:=(ag.lt f).2;omega
      ·exact Z (e▸f)
     ·exact ZG (ZG (Zn ao (M.trans W)) u8 fun e=>by have:=(i e).1;omega) u (by omega)
    ·refine YZ fun az bw D cu=>⟨hv4 (Zn an D) rfl,?_⟩
     have cw:sz az=az.size:=rfl
     have bH:=D.size
     refine ZnA (U.ext D) one (by omega) fun y aA N I=>Zjm (l:=Xq G) (Zn bw N) rfl ?_
     have bm:=F I
     have cy:sz aA=aA.size:=rfl
     have bI:=N.size
     refine (I.base (base':=sz w) (by omega)).app (n:=1) rfl (ZcA G) rfl (by omega) (by omega) (by omega) fun l8 bo o8 bq u8 b8=>?_
     have i:∀ {j:Nat},y.blk=some j->sz az<=j/\j<sz aA:=fun e=>I.lt e
     have X:=ZG (Zn al (D.trans N)) u8 fun e=>by have:=(i e).1;omega
     refine Zo (Zk2 X (by simp [Xq]) rfl fun bt c46 u z46=>?_)
     have ax:l8.blk≠some ob:=fun e=>by
       rcases b8 with h9 | h9
       ·have:=(i (h9▸e)).1;omega
       ·rw [h9] at e;cases e;omega
     refine ⟨((C.trans (D.trans N)).updS u8 fun j O=>by have:=(i O).1;omega).updS u fun j O=>by omega,l8,c46,o8.congr fun b f m _=>Zt u m fun e=>ax (e▸f),?_,?_⟩
     ·refine ((ag.congr fun b _ f _=>Zu (D.trans N) f).congr fun b f m _=>Zt u8 m fun e=>?_).congr fun b f m _=>Zt u m fun e=>?_
      ·have:=(i e).1;have:=(ag.lt f).2;omega
      ·exact Z (e▸f)
     ·exact ZG (ZG (Zn ao (D.trans N)) u8 fun e=>by have:=(i e).1;omega) u (by omega)
end
end Go.Proofs.YtpjbjdheeemdiaaGreatDoor
namespace Go.Js
open Go Go.Fw Go.Proofs.YtpjbjdheeemdiaaGreatDoor
def Zd2 (s:BL):JV:=⟨5,s,[],.nil⟩
def ZcY (n:Int):JV:=⟨4,Lib.itoa n,[],.nil⟩
def Zdm (b:Bool):JV:=⟨if b then 3 else 2,[],[],.nil⟩
def ZhK (l:List (BL × JV)):JV:=⟨7,[],l.map (·.1),ZdC (l.map (·.2))⟩
def ZcX (l:List JV):JV:=⟨6,[],[],ZdC l⟩
def Zif (ws:List BL) (n:Nat):JV:=Zd2 (ws.getD (if n<ws.length then n else 0) [])
def ZdS (f:FlowP):JV:=ZhK [(tx "resource", Zd2 f.res),(tx "origin", Zd2 f.org),(tx "threads", Zdm f.thr),(tx "count", ZcY f.cnt),(tx "strategy", Zif Zgz f.strat),(tx "ref", Zd2 f.ref),(tx "shape", Zif ZgA f.shape),
  (tx "warm", ZcY f.warm),(tx "queue", ZcY f.queue),(tx "cluster", Zdm f.clu),(tx "id", ZcY f.id),(tx "fallback", Zdm f.fb)]
def ZaQ (f:Yx):JV:=ZhK [(tx "resource", Zd2 f.res),(tx "grade", Zif ZgH f.grade),(tx "count", ZcY f.cnt),(tx "slow", ZcY f.slow),(tx "least", ZcY f.least),(tx "window", ZcY f.window),(tx "recover", ZcY f.recover)]
def Zd4 (p:BL × Int):JV:=ZhK [(tx "value", Zd2 p.1),(tx "count", ZcY p.2)]
def Zig (f:Zew):JV:=ZhK [(tx "resource", Zd2 f.res),(tx "index", ZcY f.index),(tx "count", ZcY f.cnt),(tx "seconds", ZcY f.secs),(tx "items", ZcX (f.items.map Zd4))]
def XD (f:Y4):JV:=ZhK [(tx "qps", ZcY f.qps),(tx "threads", ZcY f.threads),(tx "rt", ZcY f.rt),(tx "load", ZcY f.load),(tx "cpu", ZcY f.cpu)]
def Zcd (f:ZaI):JV:=ZhK [(tx "resource", Zd2 f.res),(tx "white", Zdm f.white),(tx "origins", ZcX (f.origins.map Zd2))]
def toV (r:RulesP):JV:=ZhK [(tx "flow", ZcX (r.fl.map ZdS)),(tx "break", ZcX (r.br.map ZaQ)),(tx "hot", ZcX (r.ho.map Zig)),(tx "system", ZcX (r.sy.map XD)),(tx "authority", ZcX (r.li.map Zcd))]
theorem Zfa:∀ l:List JV,(ZdC l).list=l
  | []=>rfl
  | v::l=>by simp only [ZdC,JL.list,Zfa l]
theorem Za8 (l:List JV):(ZdC l).len=l.length:=by rw [<- JL.list_len,Zfa]
theorem ZjW {κ:Type}:∀ {F:List (BL × κ)} {i n:Nat} {a:BL} {k:κ},(F.map (·.1)).Nodup->F[i]?=some (a,k)->Zbh a F n=some (n+i,k)
  | [],i,n,a,k,_,h=>by simp at h
  | (b,f)::r,0,n,a,k,_,h=>by
    simp at h
    obtain ⟨rfl,rfl⟩:=h
    simp [Zbh]
  | (b,f)::r,i+1,n,a,k,c,h=>by
    rw [Awo,Azs] at c
    simp at h
    have d:b≠a:=fun e=>c.1 (e▸Ayw.2 ⟨(a,k),Axq h,rfl⟩)
    simp only [Zbh,if_neg d]
    rw [ZjW c.2 h]
    congr 2
    omega
def ZeE {κ μ:Type} (rd:κ->JV->Except Nat μ):List (BL × κ)->List (BL × JV)->List μ->Prop
  | [],[],[]=>True
  | (_,k)::F,(_,v)::zs,x::m=>rd k v = .ok x/\ZeE rd F zs m
  | _,_,_=>False
theorem ZmF {κ μ:Type} {rd:κ->JV->Except Nat μ}:∀ {F:List (BL × κ)} {zs:List (BL × JV)} {m:List μ},ZeE rd F zs m->zs.length=F.length/\m.length=F.length/\∀ (i:Nat) (p:BL × JV),zs[i]?=some p->∃ f x,F[i]?=some f/\m[i]?=some x/\rd f.2 p.2 = .ok x
  | [],[],[],_=>⟨rfl,rfl,fun i p h=>by simp at h⟩
  | (a,k)::F,(b,v)::zs,x::m,h=>by
    obtain ⟨c,d,e⟩:=ZmF h.2
    refine ⟨by simp [c],by simp [d],fun i p hp=>?_⟩
    cases i with
    | zero=>simp at hp;subst hp;exact ⟨(a,k),x,rfl,rfl,h.1⟩
    | succ i=>simp at hp;obtain ⟨f,y,g,j,l⟩:=e i p hp;exact ⟨f,y,by simpa using g,by simpa using j,l⟩
  | [],[],_::_,h=>h.elim
  | [],_::_,_,h=>h.elim
  | _::_,[],_,h=>h.elim
  | _::_,_::_,[],h=>h.elim
theorem ZCf {κ μ:Type} {rd:κ->JV->Except Nat μ} {F:List (BL × κ)} {zs:List (BL × JV)} {m0 m:List μ} (d:zs.map (·.1)=F.map (·.1)) (hd:(F.map (·.1)).Nodup) (t:m0.length=F.length) (h:ZeE rd F zs m):OkZ rd F [] zs m0 m:=by
  obtain ⟨u,v,e⟩:=ZmF h
  have nm:∀ (i:Nat) p f,zs[i]?=some p->F[i]?=some f->p.1=f.1:=fun i p f hp q=>by
    have a:(zs.map (·.1))[i]?=some p.1:=by rw [Awz,hp];rfl
    rw [d,Awz,q] at a
    simpa using a.symm
  refine ⟨fun p _=>by simp,by rw [d];exact hd,fun p hp=>?_,by omega,fun j r=>?_⟩
  ·obtain ⟨i,g⟩:=Azm hp
   obtain ⟨f,x,b,l,o⟩:=e i p g
   have:=ZjW (n:=0) hd (i:=i) (a:=f.1) (k:=f.2) b
   rw [Awb] at this
   exact ⟨i,f.2,x,by rw [nm i p f g b];exact this,o,l⟩
  ·rcases Aqd j F.length with s | s
   ·exfalso
    have c:zs[j]?=some zs[j]:=Ayb (by omega)
    obtain ⟨f,x,b,l,o⟩:=e j _ c
    have:=ZjW (n:=0) hd (i:=j) (a:=f.1) (k:=f.2) b
    rw [Awb,<- nm j _ f c b] at this
    exact r _ (Axq c) _ this
   ·rw [Aqt (by omega),Aqt (by omega)]
theorem ZAn (zs:List (BL × JV)):ZBV (ZhK zs)=zs:=by
  unfold ZBV ZhK
  rw [Zfa]
  induction zs with
  | nil=>rfl
  | cons p zs a=>simp only [Awo,List.zip_cons_cons,a]
theorem ZmE {κ μ:Type} {rd:κ->JV->Except Nat μ} {F:List (BL × κ)} {zs:List (BL × JV)} {m0 m:List μ} (a:F.length=m0.length) (o:OkZ rd F [] zs m0 m):Xn rd F m0 (ZhK zs) = .ok m :=
  (ZeD a).2 ⟨⟨rfl,by show (zs.map (·.1)).length=(ZdC (zs.map (·.2))).len;rw [Za8,Ayx,Ayx]⟩,by rw [ZAn];exact o⟩
theorem ZbE {κ μ:Type} {rd:κ->JV->Except Nat μ} {F:List (BL × κ)} {zs zs':List (BL × JV)} {m0 m:List μ} (c:zs.map (·.1)=F.map (·.1)) (hd:(F.map (·.1)).Nodup) (a:m0.length=F.length) (h:ZeE rd F zs m)
    (b:zs'.map (·.1)=F.map (·.1)) (h':ZeE rd F zs' m):Xn rd F m0 (ZhK zs) = .ok m/\Xn rd F m0 (ZhK zs'.reverse) = .ok m:=by
  have o:=ZCf c hd a h
  have d:=ZCf b hd a h'
  refine ⟨ZmE a.symm o,ZmE a.symm (d.perm ?_ fun p hp=>⟨p.2,by simpa using hp,fun _ _ _ _ h=>h⟩)⟩
  rw [Avc]
  exact List.reverse_perm _
def ZsU:JL->JL
  | .nil=> .nil
  | .cons k t ns s r=> .cons k t (if k=7 then (ns.take s.len).reverse else []) (if k=7 then ZdC (ZsU s).list.reverse else ZsU s) (ZsU r)
def Zcw (v:JV):JV:=⟨v.k,v.t,if v.k=7 then (v.ns.take v.sub.len).reverse else [],if v.k=7 then ZdC (ZsU v.sub).list.reverse else ZsU v.sub⟩
theorem ZpS:∀ l:List JV,ZsU (ZdC l)=ZdC (l.map Zcw)
  | []=>rfl
  | v::l=>by simp only [ZdC,ZsU,Awo,ZpS l,Zcw]
theorem ZhC (zs:List (BL × JV)):Zcw (ZhK zs)=ZhK (zs.map fun p=>(p.1,Zcw p.2)).reverse:=by
  unfold Zcw ZhK
  dsimp only
  rw [if_pos rfl,if_pos rfl,Za8,ZpS,Zfa]
  congr 1
  ·rw [Awd (by simp),Avc,Azq]
   rfl
  ·rw [Avc,Azq,Azq]
   rfl
theorem ZpR (l:List JV):Zcw (ZcX l)=ZcX (l.map Zcw):=by
  unfold Zcw ZcX
  dsimp only
  rw [if_neg (by decide),if_neg (by decide),ZpS]
  rfl
theorem ZlK (s:BL):Zcw (Zd2 s)=Zd2 s:=rfl
theorem ZlL (s:Int):Zcw (ZcY s)=ZcY s:=rfl
theorem ZiY (b:Bool):Zcw (Zdm b)=Zdm b:=by cases b<;>rfl
theorem Zmn (ws:List BL) (n:Nat):Zcw (Zif ws n)=Zif ws n:=rfl
def wd (ws:List BL) (n:Nat):Nat:=if n<ws.length then n else 0
def FlowP.norm (f:FlowP):FlowP:={ f with strat:=wd Zgz f.strat,shape:=wd ZgA f.shape }
def Yx.norm (f:Yx):Yx:={ f with grade:=wd ZgH f.grade }
def RulesP.norm (r:RulesP):RulesP:=⟨r.fl.map FlowP.norm,r.br.map Yx.norm,r.ho,r.sy,r.li⟩
theorem ZmG (s:BL):ZaR .text (Zd2 s) = .ok (.t s):=rfl
theorem Zc6 {n:Int} (h:Zhv n):ZaR .num (ZcY n) = .ok (.n n):=by
  show (match ZCg (Lib.itoa n) with
    | some m=>(.ok (.n m):Except Nat MV)
    | none=> .error 21)=_
  rw [Zyz h]
theorem Zum (b:Bool):ZaR .yes (Zdm b) = .ok (.b b):=by cases b<;>rfl
theorem ZBk {ws:List BL}:∀ {n i:Nat} {t:BL},ws.Nodup->ws[n]?=some t->idxOf t ws i=some (i+n):=by
  induction ws with
  | nil=>intro n i t _ h;simp at h
  | cons w ws b =>
    intro n i t hd h
    rw [Azs] at hd
    cases n with
    | zero=>simp at h;subst h;simp [idxOf]
    | succ n =>
      simp at h
      have a:w≠t:=fun e=>hd.1 (e▸Axq h)
      simp only [idxOf,if_neg a]
      rw [b hd.2 h]
      congr 1
      omega
theorem Zs8 {ws:List BL} (hd:ws.Nodup) (d:0<ws.length) (n:Nat):ZaR (.word ws) (Zif ws n) = .ok (.w (wd ws n)):=by
  have b:wd ws n<ws.length:=by unfold wd;split<;>omega
  have c:ws[wd ws n]?=some (ws.getD (wd ws n) []):=by rw [Avb,Ayb b];rfl
  have a:=ZBk (i:=0) hd c
  rw [Awb] at a
  show (match idxOf (ws.getD (wd ws n) []) ws 0 with
    | some i=>(.ok (.w i):Except Nat MV)
    | none=> .error 26)=_
  rw [a]
theorem Zqr {α β γ:Type} {f:β->Except Nat γ} {g:α->β} {o:α->γ}:∀ {l:List α},(∀ a,a∈l->f (g a) = .ok (o a))->ZkH f (l.map g) = .ok (l.map o)
  | [],_=>rfl
  | a::l,h=>by
    simp only [Awo,ZkH]
    rw [h a (by simp),Zqr fun b c=>h b (by simp [c])]
theorem ZAT (l:List BL):ZaR .texts (ZcX (l.map Zd2)) = .ok (.ts l):=by
  show (match ZkH Zrz (ZdC (l.map Zd2)).list with
    | .ok l=>(.ok (.ts l):Except Nat MV)
    | .error e=> .error e)=_
  rw [Zfa,Zqr (f:=Zrz) (g:=Zd2) (o:=id) fun a _=>rfl,Avd]
theorem Zup {g:BL × Int->JV} (l:List (BL × Int)) (h:∀ p,p∈l->ZaZ (g p) = .ok p):ZaR .items (ZcX (l.map g)) = .ok (.is l):=by
  show (match ZkH ZaZ (ZdC (l.map g)).list with
    | .ok l=>(.ok (.is l):Except Nat MV)
    | .error e=> .error e)=_
  rw [Zfa,Zqr (f:=ZaZ) (g:=g) (o:=id) h,Avd]
theorem ZFc:(Zn6.map (·.1)).Nodup:=by decide +kernel
theorem ZBL:(Zjr.map (·.1)).Nodup:=by decide +kernel
theorem ZG4:(Zts.map (·.1)).Nodup:=by decide +kernel
theorem ZxT:(ZgN.map (·.1)).Nodup:=by decide +kernel
theorem ZEO:(Zla.map (·.1)).Nodup:=by decide +kernel
theorem ZER:(Zlc.map (·.1)).Nodup:=by decide +kernel
theorem Zx8:(ZjE.map (·.1)).Nodup:=by decide +kernel
theorem ZAI:Zgz.Nodup:=by decide +kernel
theorem ZAQ:ZgA.Nodup:=by decide +kernel
theorem ZBm:ZgH.Nodup:=by decide +kernel
theorem ZrX {p:BL × Int} (h:Zhv p.2):ZaZ (Zd4 p) = .ok p/\ZaZ (Zcw (Zd4 p)) = .ok p:=by
  have b:=ZbE (rd:=Zdn) (F:=Zlc) (zs:=[(tx "value", Zd2 p.1),(tx "count", ZcY p.2)]) (zs':=[(tx "value", Zd2 p.1),(tx "count", ZcY p.2)]) (m0:=[.t [],.n 0]) (m:=[.t p.1,.n p.2]) rfl ZER rfl ⟨rfl,Zc6 h,trivial⟩ rfl ⟨rfl,Zc6 h,trivial⟩
  constructor
  ·unfold ZaZ Zd4
   rw [b.1]
   rfl
  ·unfold ZaZ Zd4
   rw [ZhC]
   show (match Xn Zdn Zlc [.t [],.n 0] (ZhK ([(tx "value", Zd2 p.1),(tx "count", ZcY p.2)]:List (BL × JV)).reverse) with
     | .ok m=>(.ok (Zm1 m):Except Nat (BL × Int))
     | .error e=> .error e)=_
   rw [b.2]
   rfl
theorem Zr9 {f:FlowP} (h:f.rng):Za0 (ZdS f) = .ok f.norm/\Za0 (Zcw (ZdS f)) = .ok f.norm:=by
  obtain ⟨c,_,_,d,e,g⟩:=h
  have a:ZeE ZaR Zn6 [(tx "resource", Zd2 f.res),(tx "origin", Zd2 f.org),(tx "threads", Zdm f.thr),(tx "count", ZcY f.cnt),(tx "strategy", Zif Zgz f.strat),(tx "ref", Zd2 f.ref),(tx "shape", Zif ZgA f.shape),
    (tx "warm", ZcY f.warm),(tx "queue", ZcY f.queue),(tx "cluster", Zdm f.clu),(tx "id", ZcY f.id),(tx "fallback", Zdm f.fb)] f.norm.mv :=
    ⟨ZmG _,ZmG _,Zum _,Zc6 c,Zs8 ZAI (by decide) _,ZmG _,Zs8 ZAQ (by decide) _,Zc6 d,Zc6 e,Zum _,Zc6 g,Zum _,trivial⟩
  have b:=ZbE (rd:=ZaR) (F:=Zn6) (m0:=Zsb) rfl ZFc rfl a rfl a
  constructor
  ·unfold Za0 ZdS
   rw [b.1]
   rfl
  ·unfold Za0 ZdS
   rw [ZhC]
   simp only [Awo,Azz,ZlK,ZlL,ZiY,Zmn]
   rw [b.2]
   rfl
theorem Zpj {f:Yx} (h:f.rng):Zal (ZaQ f) = .ok f.norm/\Zal (Zcw (ZaQ f)) = .ok f.norm:=by
  obtain ⟨_,c,d,e,g,i⟩:=h
  have a:ZeE ZaR Zjr [(tx "resource", Zd2 f.res),(tx "grade", Zif ZgH f.grade),(tx "count", ZcY f.cnt),(tx "slow", ZcY f.slow),(tx "least", ZcY f.least),(tx "window", ZcY f.window),(tx "recover", ZcY f.recover)] f.norm.mv :=
    ⟨ZmG _,Zs8 ZBm (by decide) _,Zc6 c,Zc6 d,Zc6 e,Zc6 g,Zc6 i,trivial⟩
  have b:=ZbE (rd:=ZaR) (F:=Zjr) (m0:=Zlw) rfl ZBL rfl a rfl a
  constructor
  ·unfold Zal ZaQ
   rw [b.1]
   rfl
  ·unfold Zal ZaQ
   rw [ZhC]
   simp only [Awo,Azz,ZlK,ZlL,ZiY,Zmn]
   rw [b.2]
   rfl
theorem ZuN {f:Zew} (h:f.rng):Zcc (Zig f) = .ok f/\Zcc (Zcw (Zig f)) = .ok f:=by
  obtain ⟨c,d,e,g⟩:=h
  have i:ZeE ZaR Zts [(tx "resource", Zd2 f.res),(tx "index", ZcY f.index),(tx "count", ZcY f.cnt),(tx "seconds", ZcY f.secs),(tx "items", ZcX (f.items.map Zd4))] f.mv :=
    ⟨ZmG _,Zc6 c,Zc6 d,Zc6 e,Zup _ fun p hp=>(ZrX (g p hp)).1,trivial⟩
  have a:ZeE ZaR Zts [(tx "resource", Zd2 f.res),(tx "index", ZcY f.index),(tx "count", ZcY f.cnt),(tx "seconds", ZcY f.secs),(tx "items", ZcX (f.items.map (Zcw ∘ Zd4)))] f.mv :=
    ⟨ZmG _,Zc6 c,Zc6 d,Zc6 e,Zup _ fun p hp=>(ZrX (g p hp)).2,trivial⟩
  have b:=ZbE (rd:=ZaR) (F:=Zts) (m0:=ZwF) rfl ZG4 rfl i rfl a
  constructor
  ·unfold Zcc Zig
   rw [b.1]
   rfl
  ·unfold Zcc Zig
   rw [ZhC]
   simp only [Awo,Azz,ZlK,ZlL,ZiY,Zmn,ZpR,Azq]
   rw [b.2]
   rfl
theorem Zmo {f:Y4} (h:f.rng):Zaa (XD f) = .ok f/\Zaa (Zcw (XD f)) = .ok f:=by
  obtain ⟨c,d,e,g,i⟩:=h
  have a:ZeE ZaR ZgN [(tx "qps", ZcY f.qps),(tx "threads", ZcY f.threads),(tx "rt", ZcY f.rt),(tx "load", ZcY f.load),(tx "cpu", ZcY f.cpu)] f.mv :=
    ⟨Zc6 c,Zc6 d,Zc6 e,Zc6 g,Zc6 i,trivial⟩
  have b:=ZbE (rd:=ZaR) (F:=ZgN) (m0:=Zjz) rfl ZxT rfl a rfl a
  constructor
  ·unfold Zaa XD
   rw [b.1]
   rfl
  ·unfold Zaa XD
   rw [ZhC]
   simp only [Awo,Azz,ZlL]
   rw [b.2]
   rfl
theorem ZrS (f:ZaI):ZaY (Zcd f) = .ok f/\ZaY (Zcw (Zcd f)) = .ok f:=by
  have a:ZeE ZaR Zla [(tx "resource", Zd2 f.res),(tx "white", Zdm f.white),(tx "origins", ZcX (f.origins.map Zd2))] f.mv:=⟨ZmG _,Zum _,ZAT _,trivial⟩
  have b:=ZbE (rd:=ZaR) (F:=Zla) (m0:=Zqt) rfl ZEO rfl a rfl a
  constructor
  ·unfold ZaY Zcd
   rw [b.1]
   rfl
  ·unfold ZaY Zcd
   rw [ZhC]
   simp only [Awo,Azz,ZlK,ZiY,ZpR,Azq]
   rw [show Zcw ∘ Zd2=Zd2 from rfl,b.2]
   rfl
theorem ZcV {α β:Type} {f:JV->Except Nat β} {g:α->JV} {o:α->β}:∀ {l:List α} {i:Nat},(∀ a,a∈l->f (g a) = .ok (o a))->Zap f (l.map g) i = .ok (l.map o)
  | [],_,_=>rfl
  | a::l,i,h=>by
    simp only [Awo,Zap]
    rw [h a (by simp),ZcV fun b c=>h b (by simp [c])]
theorem ZvP {r:RulesP} (h:r.rng):(Zho (toV r)=if r.norm.whereE.2.2=0 then .ok r.norm else .error r.norm.whereE)/\Zho (Zcw (toV r))=Zho (toV r):=by
  obtain ⟨c,d,e,f⟩:=h
  have i:ZeE ZhI ZjE [(tx "flow", ZcX (r.fl.map ZdS)),(tx "break", ZcX (r.br.map ZaQ)),(tx "hot", ZcX (r.ho.map Zig)),(tx "system", ZcX (r.sy.map XD)),(tx "authority", ZcX (r.li.map Zcd))]
    [ZdC (r.fl.map ZdS),ZdC (r.br.map ZaQ),ZdC (r.ho.map Zig),ZdC (r.sy.map XD),ZdC (r.li.map Zcd)]:=⟨rfl,rfl,rfl,rfl,rfl,trivial⟩
  have rb:ZeE ZhI ZjE [(tx "flow", ZcX (r.fl.map (Zcw ∘ ZdS))),(tx "break", ZcX (r.br.map (Zcw ∘ ZaQ))),(tx "hot", ZcX (r.ho.map (Zcw ∘ Zig))),(tx "system", ZcX (r.sy.map (Zcw ∘ XD))),(tx "authority", ZcX (r.li.map (Zcw ∘ Zcd)))]
    [ZdC (r.fl.map (Zcw ∘ ZdS)),ZdC (r.br.map (Zcw ∘ ZaQ)),ZdC (r.ho.map (Zcw ∘ Zig)),ZdC (r.sy.map (Zcw ∘ XD)),ZdC (r.li.map (Zcw ∘ Zcd))]:=⟨rfl,rfl,rfl,rfl,rfl,trivial⟩
  have k:=(ZbE (rd:=ZhI) (F:=ZjE) (m0:=ZjF) rfl Zx8 rfl i rfl i).1
  have l:=(ZbE (rd:=ZhI) (F:=ZjE) (m0:=ZjF) rfl Zx8 rfl rb rfl rb).2
  have j:Zho (toV r)=if r.norm.whereE.2.2=0 then .ok r.norm else .error r.norm.whereE:=by
    unfold Zho toV
    rw [k]
    unfold Zb1 ZnK
    simp only [List.getD_cons_zero,List.getD_cons_succ,Zfa]
    rw [ZcV fun a b=>(Zr9 (c a b)).1,ZcV fun a b=>(Zpj (d a b)).1,ZcV (o:=id) fun a b=>(ZuN (e a b)).1,ZcV (o:=id) fun a b=>(Zmo (f a b)).1,ZcV (o:=id) fun a _=>(ZrS a).1]
    simp only [Avd]
    rfl
  refine ⟨j,?_⟩
  rw [j]
  unfold Zho toV
  rw [ZhC]
  simp only [Awo,Azz,ZpR,Azq]
  rw [l]
  unfold Zb1 ZnK
  simp only [List.getD_cons_zero,List.getD_cons_succ,Zfa]
  rw [ZcV (g:=Zcw ∘ ZdS) fun a b=>(Zr9 (c a b)).2,ZcV (g:=Zcw ∘ ZaQ) fun a b=>(Zpj (d a b)).2,ZcV (g:=Zcw ∘ Zig) (o:=id) fun a b=>(ZuN (e a b)).2,ZcV (g:=Zcw ∘ XD) (o:=id) fun a b=>(Zmo (f a b)).2,ZcV (g:=Zcw ∘ Zcd) (o:=id) fun a _=>(ZrS a).2]
  simp only [Avd]
  rfl
end Go.Js
namespace Go.Js
open Go Go.Fw Go.Proofs.YtpjbjdheeemdiaaGreatDoor
def okM (q:BL × JV):Prop:=q.1.length<=20/\wV q.2<=40000000000
theorem Zyf (l:List JV):pw (ZdC l)=(l.map wV).sum:=ZGC l
theorem ZkT {α:Type} {f:α->Nat} {n:Nat}:∀ {l:List α},(∀ x,x∈l->f x<=n)->(l.map f).sum<=l.length*n
  | [],_=>by simp
  | x::l,h=>by
    have:=h x (by simp)
    have:=ZkT (l:=l) fun y a=>h y (by simp [a])
    simp only [Awo,Azp,Aqj,Awx]
    omega
theorem ZEd {zs:List (BL × JV)} (c:zs.length<=13) (h:∀ q,q∈zs->okM q):wV (ZhK zs)<=600000000000:=by
  have d:=ZCh (zs.map (·.1))
  have e:=Zyf (zs.map (·.2))
  have f:((zs.map (·.1)).map fun n:BL=>6*n.length+3).sum<=(zs.map (·.1)).length*123:=ZkT fun x a=>by
    obtain ⟨q,b,rfl⟩:=Ayw.1 a
    have:=(h q b).1
    omega
  have g:((zs.map (·.2)).map wV).sum<=(zs.map (·.2)).length*40000000000:=ZkT fun x a=>by
    obtain ⟨q,b,rfl⟩:=Ayw.1 a
    exact (h q b).2
  rw [Ayx] at f g
  have i:zs.length*123<=13*123:=Aqz _ c
  have j:zs.length*40000000000<=13*40000000000:=Aqz _ c
  unfold ZhK wV
  dsimp only
  rw [d,e]
  simp only [Ays]
  omega
theorem ZB0 {s:BL} (h:s.length<=20000000):wV (Zd2 s)<=40000000000:=by
  unfold Zd2 wV
  simp only [nsW,pw]
  omega
theorem ZGl {n:Int} (h:Zhv n):wV (ZcY n)<=40000000000:=by
  have:=Lib.itoa_length_le n h.1 h.2
  unfold ZcY wV
  simp only [nsW,pw]
  omega
theorem ZlI (b:Bool):wV (Zdm b)<=40000000000:=by
  unfold Zdm wV
  simp only [nsW,pw,Ays]
  omega
theorem ZsR {ws:List BL} (h:∀ w,w∈ws->w.length<=20) (n:Nat):wV (Zif ws n)<=40000000000:=by
  refine ZB0 ?_
  rw [Avb]
  cases a:ws[if n<ws.length then n else 0]? with
  | none=>exact Ayk _
  | some w=>have:=h w (Axq a);show w.length<=_;omega
theorem Zyw (zs:List (BL × JV)) (q:BL × JV):ZhK (zs++[q])=⟨7,(ZhK zs).t,(ZhK zs).ns++[q.1],(ZhK zs).sub.snoc q.2⟩:=by
  have b:∀ (l:List JV) (v:JV),ZdC (l++[v])=(ZdC l).snoc v:=fun l v=>by
    induction l with
    | nil=>rfl
    | cons a l c=>simp only [Ayp,ZdC,JL.snoc,c]
  unfold ZhK
  simp only [Ayy,Awo,Azz,b]
theorem Zrp:∀ w,w∈Zgz->w.length<=20:=by decide +kernel
theorem Zrs:∀ w,w∈ZgA->w.length<=20:=by decide +kernel
theorem Zr6:∀ w,w∈ZgH->w.length<=20:=by decide +kernel
end Go.Js
namespace Go.Proofs.YtpjbjdheeemdiaaGreatDoor
open Go Go.Fw Go.Js
def ZtU (h:Zc) (o a:Nat) (zs:List (BL × JV)):Prop:=∃ z T,obj h o=some (.cells (Xq z).toArray T (0,0))/\ZaS h (fun j=>a<=j/\j<sz h/\j≠o) z (ZhK zs)/\(∀ q,q∈zs->okM q)/\a<=o
theorem ZtU.lt {h:Zc} {o a:Nat} {zs:List (BL × JV)} (p:ZtU h o a zs):o<sz h:=by obtain ⟨z,T,c,_⟩:=p;exact ZaK c
theorem ZtU.ge {h:Zc} {o b:Nat} {zs:List (BL × JV)} (p:ZtU h o b zs):b<=o:=by obtain ⟨z,T,c,_,_,a⟩:=p;exact a
theorem ZtU.ext {h h':Zc} {o f:Nat} {zs:List (BL × JV)} (p:ZtU h o f zs) (e:Ext h h'):ZtU h' o f zs:=by
  obtain ⟨z,T,c,v,k,a⟩:=p
  have:=e.size
  have i:sz h=h.size:=rfl
  have s1:sz h'=h'.size:=rfl
  exact ⟨z,T,Zn c e,v.keep (fun b _ g=>Zu e g) fun b d=>⟨d.1,by have:=d.2.1;omega,d.2.2⟩,k,a⟩
section
variable {h:Zc}
theorem ZdI {K:Option Addr->HP} (a:∀ o h',Ext h h'->ZtU h' o (sz h) []->K (At o) h'):ZV K h:=by
  unfold ZV Zem
  refine YZ fun b c d f=>a _ b d ⟨(7,ByteArray.mk #[],⟨none,0,0⟩,⟨none,0,0⟩,()),_,c,?_,(fun q e=>by cases e),Aqo _⟩
  exact ⟨rfl,rfl,Row.nil _ _,Zc4,[],Row.nil _ _,Zc4,rfl⟩
theorem Zc8 {o u:Nat} {zs:List (BL × JV)} {nm:BL} {zv:VT5} {p:JV} {S:Nat->Prop} (ob:ZtU h o u zs) (hp:ZaS h S zv p) (A:∀ j,S j->j<sz h) (E:zs.length<=12) (hm:okM (nm,p)) {K:Option Addr->HP}
    (B:∀ h',ZtU h' o u (zs++[(nm,p)])->Upd (· = o) h h'->K (At o) h'):ZC (At o) (Zj nm) zv K h:=by
  obtain ⟨z,T,c,v,k,f⟩:=ob
  unfold ZC ZcU
  refine YZ fun n C r F=>?_
  have G:sz h=h.size:=rfl
  have s1:sz n=n.size:=rfl
  have ol:=ZaK c
  have t:obj n h.size=some (.cells (Xq zv).toArray 33 (0,0)):=C
  have co:=Zn c r
  have g:∀ q,q∈zs++[(nm,p)]->okM q:=fun q d=>by
    rcases Axz.1 d with d | d
    ·exact k q d
    ·rw [Axu] at d;subst d;exact hm
  have hw:wV (ZhK (zs++[(nm,p)]))<=600000000000:=ZEd (by simp;omega) g
  have es:=Zyw zs (nm,p)
  refine Zo (rI (Zb co rfl) (rS (Zb co rfl) (rL (s:=z.2.2.1) (Zb co rfl) (rL (s:=z.2.2.2.1) (Zb co rfl) (rI (Zb t rfl) (rS (Zb t rfl) (rL (s:=zv.2.2.1) (Zb t rfl) (rL (s:=zv.2.2.2.1) (Zb t rfl) ?_))))))))
  refine ZAV (S:=fun j=>j<sz n) (v:=ZhK zs) (p:=p) (nm:=nm) (v.keep (fun b _ i=>Zu r i) fun b a=>by have:=a.2.1;omega) (hp.keep (fun b _ i=>Zu r i) fun b a=>by have:=A b a;omega) (fun _ h=>h) rfl (by rw [es] at hw;exact Aqp hw (by decide)) fun z2 w x l=>?_
  rw [<- es] at l
  have m:=r.trans x
  have s2:sz w=w.size:=rfl
  have:=m.size
  refine Zo (ZfK (Zn co x) (by show 4<=4;omega) rfl fun D c3 y z3=>B D ⟨z2,T,c3,?_,g,f⟩ (UN m y))
  exact l.keep (fun b a i=>Zt y i fun e=>by have:=a.1;omega) fun b a=>⟨by have:=a.1;omega,by have:=a.2;omega,by have:=a.1;omega⟩
theorem ZhE {o a:Nat} {zs:List (BL × JV)} {nm s:BL} (ob:ZtU h o a zs) (c:zs.length<=12) (d:nm.length<=20) (e:s.length<=20000000) {K:Option Addr->HP} (f:∀ h',ZtU h' o a (zs++[(nm,Zd2 s)])->Upd (· = o) h h'->K (At o) h') :
    ZX (At o) (Zj nm) (Zj s) K h:=by
  unfold ZX Zci
  refine ZjL fun k b=>Zc8 (S:=fun _=>False) (zv:=(5,Zj s,⟨none,0,0⟩,⟨none,0,0⟩,())) (p:=Zd2 s) (ob.ext b) ⟨rfl,rfl,Row.nil _ _,Zc4,[],Row.nil _ _,Zc4,rfl⟩ (fun _ h=>h.elim) c ⟨d,ZB0 e⟩ fun g i j=>f g i (UN b j)
theorem Xr {o a:Nat} {zs:List (BL × JV)} {nm:BL} {n:Int} (ob:ZtU h o a zs) (d:zs.length<=12) (e:nm.length<=20) (b:Zhv n) (ht:ZaT h) {K:Option Addr->HP} (f:∀ h',ZtU h' o a (zs++[(nm,ZcY n)])->Upd (· = o) h h'->K (At o) h') :
    ZL (At o) (Zj nm) n K h:=by
  unfold ZL ZbB
  refine Zv5 b ht fun k c=>Zc8 (S:=fun _=>False) (zv:=(4,Zj (Lib.itoa n),⟨none,0,0⟩,⟨none,0,0⟩,())) (p:=ZcY n) (ob.ext c) ⟨rfl,rfl,Row.nil _ _,Zc4,[],Row.nil _ _,Zc4,rfl⟩ (fun _ h=>h.elim) d ⟨e,ZGl b⟩ fun g i j=>f g i (UN c j)
theorem ZhD {b:Bool} {K:VT5->HP} (e:∀ z h',Ext h h'->ZaS h' (fun _=>False) z (Zdm b)->K z h'):Zat b K h:=by
  unfold Zat Zfp
  refine YZ fun g i f m=>?_
  have a:obj g h.size=some (.cells zV.toArray 33 (0,0)):=i
  have n:sz h=h.size:=rfl
  have nil:∀ {h':Zc} (k:Nat),ZaS h' (fun _=>False) ((k:Int),ByteArray.mk #[],⟨none,0,0⟩,⟨none,0,0⟩,()) ⟨k,[],[],.nil⟩:=fun {h'} k=>⟨rfl,rfl,Row.nil _ _,Zc4,[],Row.nil _ _,Zc4,rfl⟩
  cases b with
  | true=>exact Zm rfl (ZbF (x:=⟨none,0,0⟩) (y:=⟨none,0,0⟩) a rfl fun c d z3=>e _ c (f.updS d fun j l=>by omega) (nil 3))
  | false=>exact Zl rfl (ZbF (x:=⟨none,0,0⟩) (y:=⟨none,0,0⟩) a rfl fun c d z3=>e _ c (f.updS d fun j l=>by omega) (nil 2))
theorem ZkL {ws:List BL} {w:Sl} (d:Row h w 1 (ws.map sV)) (r:0<ws.length) {n:Nat} (s:n<256) {K:VT5->HP} (l:∀ z h',Ext h h'->ZaS h' (fun _=>False) z (Zif ws n)->K z h'):Xj w n K h:=by
  unfold Xj ZcR
  refine YZ fun e m f v=>?_
  have a:obj e h.size=some (.cells zV.toArray 33 (0,0)):=m
  have A:sz h=h.size:=rfl
  have B:=Zb3 d
  refine ZO (fun p h'=>h'=e/\p.1=((if n<ws.length then n else 0:Nat):Int)) ?_ ?_
  ·rintro ⟨i,u⟩ C ⟨rfl,g⟩
   dsimp only at g ⊢
   have b:(if n<ws.length then n else 0)<ws.length:=by split<;>omega
   refine ZgQ (d.ext f) (i:=if n<ws.length then n else 0) (t:=ws.getD (if n<ws.length then n else 0) []) (by rw [Avb,Ayb b];rfl) g ?_
   refine ZjL fun D k=>ZbF (x:=⟨none,0,0⟩) (y:=⟨none,0,0⟩) (Zn a k) rfl fun o q z3=>l _ o ((f.trans k).updS q fun j E=>by omega) ?_
   exact ⟨rfl,rfl,Row.nil _ _,Zc4,[],Row.nil _ _,Zc4,rfl⟩
  ·rw [YA (by omega) (by omega)]
   refine Zq (fun c=>Za ⟨rfl,?_⟩) fun c=>⟨rfl,?_⟩
   ·dsimp only
    rw [if_neg (by omega)]
    rfl
   ·dsimp only
    rw [if_pos (by omega)]
theorem YH {b i:Nat} {l:List Value} {T:TypeId} {f:Nat × Nat} {v:Value} (c:obj h b=some (.cells l.toArray T f)) (a:l[i]?=some v):Yb h [(b,i,v)]:=⟨by rw [Zai];exact Zb c a,trivial⟩
end
end Go.Proofs.YtpjbjdheeemdiaaGreatDoor
namespace Go.Proofs.YtpjbjdheeemdiaaGreatDoor
open Go Go.Fw Go.Js
theorem Zoo:tx "cluster" = [99,108,117,115,116,101,114]:=by kernel_rfl
theorem ZfA:tx "count" = [99,111,117,110,116]:=by kernel_rfl
theorem ZB3:tx "cpu" = [99,112,117]:=by kernel_rfl
theorem Zmm:tx "fallback" = [102,97,108,108,98,97,99,107]:=by kernel_rfl
theorem Zt9:tx "grade" = [103,114,97,100,101]:=by kernel_rfl
theorem ZGq:tx "id" = [105,100]:=by kernel_rfl
theorem ZpQ:tx "index" = [105,110,100,101,120]:=by kernel_rfl
theorem ZpP:tx "items" = [105,116,101,109,115]:=by kernel_rfl
theorem Zt8:tx "least" = [108,101,97,115,116]:=by kernel_rfl
theorem ZxE:tx "load" = [108,111,97,100]:=by kernel_rfl
theorem Zrg:tx "origin" = [111,114,105,103,105,110]:=by kernel_rfl
theorem ZkR:tx "origins" = [111,114,105,103,105,110,115]:=by kernel_rfl
theorem ZB2:tx "qps" = [113,112,115]:=by kernel_rfl
theorem Zt7:tx "queue" = [113,117,101,117,101]:=by kernel_rfl
theorem Zon:tx "recover" = [114,101,99,111,118,101,114]:=by kernel_rfl
theorem ZB1:tx "ref" = [114,101,102]:=by kernel_rfl
theorem Zbc:tx "resource" = [114,101,115,111,117,114,99,101]:=by kernel_rfl
theorem ZGp:tx "rt" = [114,116]:=by kernel_rfl
theorem ZkQ:tx "seconds" = [115,101,99,111,110,100,115]:=by kernel_rfl
theorem Zt6:tx "shape" = [115,104,97,112,101]:=by kernel_rfl
theorem ZxD:tx "slow" = [115,108,111,119]:=by kernel_rfl
theorem Zml:tx "strategy" = [115,116,114,97,116,101,103,121]:=by kernel_rfl
theorem ZiX:tx "threads" = [116,104,114,101,97,100,115]:=by kernel_rfl
theorem Zt5:tx "value" = [118,97,108,117,101]:=by kernel_rfl
theorem ZxB:tx "warm" = [119,97,114,109]:=by kernel_rfl
theorem ZpO:tx "white" = [119,104,105,116,101]:=by kernel_rfl
theorem Zrf:tx "window" = [119,105,110,100,111,119]:=by kernel_rfl
theorem Zf8 (l:List JV) (v:JV):ZdC (l++[v])=(ZdC l).snoc v:=by
  induction l with
  | nil=>rfl
  | cons a l b=>simp only [Ayp,ZdC,JL.snoc,b]
theorem Zlf {a H:Zc} {o d:Nat} {zs:List (BL × JV)} {v:JV} (ob:ZtU H o d zs) (g:sz a<=d) (e:Ext a H) (h:v=ZhK zs) {K:Option Addr->HP} (i:∀ o z T h',Ext a h'->obj h' o=some (.cells (Xq z).toArray T (0,0))->ZaS h' (fr h' (sz a)) z v->K (At o) h'):K (At o) H:=by
  obtain ⟨z,T,c,w,_,_⟩:=ob
  subst h
  exact i o z T H e c (w.keep (fun _ _ _=>rfl) fun b f=>⟨by have:=f.1;omega,f.2.1⟩)
theorem ZAw {e:Zc} {f:FlowP} (y:f.res.length<=20000000/\f.org.length<=20000000/\f.ref.length<=20000000) (m:f.rng) (ht:ZaT e) {K:Option Addr->HP} (I:∀ o z T h',Ext e h'->obj h' o=some (.cells (Xq z).toArray T (0,0))->ZaS h' (fr h' (sz e)) z (ZdS f)->K (At o) h'):ZcK (ZBt f) K e:=by
  unfold ZcK Zgh
  refine YZ fun x J b L=>?_
  have M:sz e=e.size:=rfl
  have s1:sz x=x.size:=rfl
  have a:obj x e.size=some (.cells (Zd5 f).toArray 75 (0,0)):=J
  refine rS (Zb a rfl) ?_
  refine rS (Zb a rfl) ?_
  refine rBl (Zb a rfl) ?_
  refine rI (Zb a rfl) ?_
  refine ZdI fun o g2 D ob=>?_
  have a:=Zn a D
  have b:=b.trans D
  have N:sz x<=o:=ob.ge
  refine ⟨YH a rfl,?_⟩
  refine ⟨YH a rfl,?_⟩
  refine ⟨YH a rfl,?_⟩
  refine ⟨YH a rfl,?_⟩
  refine ZhE (nm:=[114,101,115,111,117,114,99,101]) (s:=f.res) ob (show 0<=12 by decide) (by decide) y.1 fun g3 ob E=>?_
  have a:=ZG a E (by omega)
  have b:=b.updS E fun j c=>by omega
  refine ⟨YH a rfl,?_⟩
  refine ⟨YH a rfl,?_⟩
  refine ⟨YH a rfl,?_⟩
  refine ZhE (nm:=[111,114,105,103,105,110]) (s:=f.org) ob (show 1<=12 by decide) (by decide) y.2.1 fun g4 ob F=>?_
  have a:=ZG a F (by omega)
  have b:=b.updS F fun j c=>by omega
  refine ⟨YH a rfl,?_⟩
  refine ⟨YH a rfl,?_⟩
  refine ZhD fun z g5 A d=>?_
  have a:=Zn a A
  have b:=b.trans A
  have ob:=ob.ext A
  refine ⟨YH a rfl,?_⟩
  refine Zc8 (nm:=[116,104,114,101,97,100,115]) ob d (fun _ h=>h.elim) (show 2<=12 by decide) ⟨show 7<=20 by decide,ZlI _⟩ fun g6 ob G=>?_
  have a:=ZG a G (by omega)
  have b:=b.updS G fun j c=>by omega
  refine ⟨YH a rfl,?_⟩
  refine Xr (nm:=[99,111,117,110,116]) ob (show 3<=12 by decide) (by decide) m.1 (ht.ext b) fun g7 ob H=>?_
  have a:=ZG a H (by omega)
  have b:=b.updS H fun j c=>by omega
  refine rI (Zb a rfl) ?_
  refine rS (Zb a rfl) ?_
  refine rI (Zb a rfl) ?_
  refine Zuc fun w g8 B hw _=>?_
  have a:=Zn a B
  have b:=b.trans B
  have ob:=ob.ext B
  refine ⟨YH a rfl,?_⟩
  refine ⟨YH a rfl,?_⟩
  refine ⟨YH a rfl,?_⟩
  refine ZkL hw (by decide) m.2.1 fun z g9 C d=>?_
  have a:=Zn a C
  have b:=b.trans C
  have ob:=ob.ext C
  refine ⟨YH a rfl,?_⟩
  refine ⟨YH a rfl,?_⟩
  refine Zc8 (nm:=[115,116,114,97,116,101,103,121]) ob d (fun _ h=>h.elim) (show 4<=12 by decide) ⟨show 8<=20 by decide,ZsR Zrp _⟩ fun g10 ob n=>?_
  have a:=ZG a n (by omega)
  have b:=b.updS n fun j c=>by omega
  refine ⟨YH a rfl,?_⟩
  refine ⟨YH a rfl,?_⟩
  refine ZhE (nm:=[114,101,102]) (s:=f.ref) ob (show 5<=12 by decide) (by decide) y.2.2 fun g11 ob p=>?_
  have a:=ZG a p (by omega)
  have b:=b.updS p fun j c=>by omega
  refine ⟨YH a rfl,?_⟩
  refine Zuh fun w g12 g hw _=>?_
  have a:=Zn a g
  have b:=b.trans g
  have ob:=ob.ext g
  refine ⟨YH a rfl,?_⟩
  refine ZkL hw (by decide) m.2.2.1 fun z g13 i d=>?_
  have a:=Zn a i
  have b:=b.trans i
  have ob:=ob.ext i
  refine Zc8 (nm:=[115,104,97,112,101]) ob d (fun _ h=>h.elim) (show 6<=12 by decide) ⟨show 5<=20 by decide,ZsR Zrs _⟩ fun g14 ob q=>?_
  have a:=ZG a q (by omega)
  have b:=b.updS q fun j c=>by omega
  refine rI (Zb a rfl) ?_
  refine rI (Zb a rfl) ?_
  refine Xr (nm:=[119,97,114,109]) ob (show 7<=12 by decide) (by decide) m.2.2.2.1 (ht.ext b) fun g15 ob r=>?_
  have a:=ZG a r (by omega)
  have b:=b.updS r fun j c=>by omega
  refine ⟨YH a rfl,?_⟩
  refine Xr (nm:=[113,117,101,117,101]) ob (show 8<=12 by decide) (by decide) m.2.2.2.2.1 (ht.ext b) fun g16 ob u16=>?_
  have a:=ZG a u16 (by omega)
  have b:=b.updS u16 fun j c=>by omega
  refine rBl (Zb a rfl) ?_
  refine rI (Zb a rfl) ?_
  refine rBl (Zb a rfl) ?_
  refine ZhD fun z g17 k d=>?_
  have a:=Zn a k
  have b:=b.trans k
  have ob:=ob.ext k
  refine ⟨YH a rfl,?_⟩
  refine ⟨YH a rfl,?_⟩
  refine Zc8 (nm:=[99,108,117,115,116,101,114]) ob d (fun _ h=>h.elim) (show 9<=12 by decide) ⟨show 7<=20 by decide,ZlI _⟩ fun g18 ob t=>?_
  have a:=ZG a t (by omega)
  have b:=b.updS t fun j c=>by omega
  refine ⟨YH a rfl,?_⟩
  refine ⟨YH a rfl,?_⟩
  refine Xr (nm:=[105,100]) ob (show 10<=12 by decide) (by decide) m.2.2.2.2.2 (ht.ext b) fun g19 ob u=>?_
  have a:=ZG a u (by omega)
  have b:=b.updS u fun j c=>by omega
  refine ⟨YH a rfl,?_⟩
  refine ZhD fun z g20 l d=>?_
  have a:=Zn a l
  have b:=b.trans l
  have ob:=ob.ext l
  refine Zc8 (nm:=[102,97,108,108,98,97,99,107]) ob d (fun _ h=>h.elim) (show 11<=12 by decide) ⟨show 8<=20 by decide,ZlI _⟩ fun g21 ob v=>?_
  have a:=ZG a v (by omega)
  have b:=b.updS v fun j c=>by omega
  exact Zlf ob (by omega) b (by rw [show (ZdS f)=ZhK [([114,101,115,111,117,114,99,101],Zd2 f.res),([111,114,105,103,105,110],Zd2 f.org),([116,104,114,101,97,100,115],Zdm f.thr),([99,111,117,110,116],ZcY f.cnt),([115,116,114,97,116,101,103,121],Zif Zgz f.strat),([114,101,102],Zd2 f.ref),([115,104,97,112,101],Zif ZgA f.shape),([119,97,114,109],ZcY f.warm),([113,117,101,117,101],ZcY f.queue),([99,108,117,115,116,101,114],Zdm f.clu),([105,100],ZcY f.id),([102,97,108,108,98,97,99,107],Zdm f.fb)] from by unfold ZdS;rw [Zbc,Zrg,ZiX,ZfA,Zml,ZB1,Zt6,ZxB,Zt7,Zoo,ZGq,Zmm]];rfl) I
theorem Zvz {c:Zc} {f:Yx} (u:f.res.length<=20000000) (d:f.rng) (ht:ZaT c) {K:Option Addr->HP} (v:∀ o z T h',Ext c h'->obj h' o=some (.cells (Xq z).toArray T (0,0))->ZaS h' (fr h' (sz c)) z (ZaQ f)->K (At o) h'):Zbr (Zvh f) K c:=by
  unfold Zbr ZeK
  refine YZ fun k x b A=>?_
  have B:sz c=c.size:=rfl
  have s1:sz k=k.size:=rfl
  have a:obj k c.size=some (.cells (Zcu f).toArray 80 (0,0)):=x
  refine rS (Zb a rfl) ?_
  refine rI (Zb a rfl) ?_
  refine rI (Zb a rfl) ?_
  refine ZdI fun o g2 n ob=>?_
  have a:=Zn a n
  have b:=b.trans n
  have C:sz k<=o:=ob.ge
  refine ⟨YH a rfl,?_⟩
  refine ⟨YH a rfl,?_⟩
  refine ⟨YH a rfl,?_⟩
  refine ZhE (nm:=[114,101,115,111,117,114,99,101]) (s:=f.res) ob (show 0<=12 by decide) (by decide) u fun g3 ob p=>?_
  have a:=ZG a p (by omega)
  have b:=b.updS p fun j e=>by omega
  refine ⟨YH a rfl,?_⟩
  refine ⟨YH a rfl,?_⟩
  refine ZuT fun w g4 l hw _=>?_
  have a:=Zn a l
  have b:=b.trans l
  have ob:=ob.ext l
  refine ⟨YH a rfl,?_⟩
  refine ⟨YH a rfl,?_⟩
  refine ZkL hw (by decide) d.1 fun z g5 m y=>?_
  have a:=Zn a m
  have b:=b.trans m
  have ob:=ob.ext m
  refine ⟨YH a rfl,?_⟩
  refine Zc8 (nm:=[103,114,97,100,101]) ob y (fun _ h=>h.elim) (show 1<=12 by decide) ⟨show 5<=20 by decide,ZsR Zr6 _⟩ fun g6 ob q=>?_
  have a:=ZG a q (by omega)
  have b:=b.updS q fun j e=>by omega
  refine ⟨YH a rfl,?_⟩
  refine Xr (nm:=[99,111,117,110,116]) ob (show 2<=12 by decide) (by decide) d.2.1 (ht.ext b) fun g7 ob r=>?_
  have a:=ZG a r (by omega)
  have b:=b.updS r fun j e=>by omega
  refine rI (Zb a rfl) ?_
  refine rI (Zb a rfl) ?_
  refine rI (Zb a rfl) ?_
  refine rI (Zb a rfl) ?_
  refine Xr (nm:=[115,108,111,119]) ob (show 3<=12 by decide) (by decide) d.2.2.1 (ht.ext b) fun g8 ob u8=>?_
  have a:=ZG a u8 (by omega)
  have b:=b.updS u8 fun j e=>by omega
  refine ⟨YH a rfl,?_⟩
  refine ⟨YH a rfl,?_⟩
  refine ⟨YH a rfl,?_⟩
  refine Xr (nm:=[108,101,97,115,116]) ob (show 4<=12 by decide) (by decide) d.2.2.2.1 (ht.ext b) fun g9 ob t=>?_
  have a:=ZG a t (by omega)
  have b:=b.updS t fun j e=>by omega
  refine ⟨YH a rfl,?_⟩
  refine ⟨YH a rfl,?_⟩
  refine Xr (nm:=[119,105,110,100,111,119]) ob (show 5<=12 by decide) (by decide) d.2.2.2.2.1 (ht.ext b) fun g10 ob g=>?_
  have a:=ZG a g (by omega)
  have b:=b.updS g fun j e=>by omega
  refine ⟨YH a rfl,?_⟩
  refine Xr (nm:=[114,101,99,111,118,101,114]) ob (show 6<=12 by decide) (by decide) d.2.2.2.2.2 (ht.ext b) fun g11 ob i=>?_
  have a:=ZG a i (by omega)
  have b:=b.updS i fun j e=>by omega
  exact Zlf ob (by omega) b (by rw [show (ZaQ f)=ZhK [([114,101,115,111,117,114,99,101],Zd2 f.res),([103,114,97,100,101],Zif ZgH f.grade),([99,111,117,110,116],ZcY f.cnt),([115,108,111,119],ZcY f.slow),([108,101,97,115,116],ZcY f.least),([119,105,110,100,111,119],ZcY f.window),([114,101,99,111,118,101,114],ZcY f.recover)] from by unfold ZaQ;rw [Zbc,Zt9,ZfA,ZxD,Zt8,Zrf,Zon]];rfl) v
theorem Zvx {c:Zc} {f:Y4} (d:f.rng) (ht:ZaT c) {K:Option Addr->HP} (p:∀ o z T h',Ext c h'->obj h' o=some (.cells (Xq z).toArray T (0,0))->ZaS h' (fr h' (sz c)) z (XD f)->K (At o) h'):Zbo (ZpV f) K c:=by
  unfold Zbo ZeH
  refine YZ fun e q b r=>?_
  have s:sz c=c.size:=rfl
  have s1:sz e=e.size:=rfl
  have a:obj e c.size=some (.cells (ZbG f).toArray 91 (0,0)):=q
  refine rI (Zb a rfl) ?_
  refine rI (Zb a rfl) ?_
  refine rI (Zb a rfl) ?_
  refine rI (Zb a rfl) ?_
  refine rI (Zb a rfl) ?_
  refine ZdI fun o g2 h ob=>?_
  have a:=Zn a h
  have b:=b.trans h
  have t:sz e<=o:=ob.ge
  refine ⟨YH a rfl,?_⟩
  refine ⟨YH a rfl,?_⟩
  refine ⟨YH a rfl,?_⟩
  refine ⟨YH a rfl,?_⟩
  refine ⟨YH a rfl,?_⟩
  refine Xr (nm:=[113,112,115]) ob (show 0<=12 by decide) (by decide) d.1 (ht.ext b) fun g3 ob i=>?_
  have a:=ZG a i (by omega)
  have b:=b.updS i fun j g=>by omega
  refine ⟨YH a rfl,?_⟩
  refine ⟨YH a rfl,?_⟩
  refine ⟨YH a rfl,?_⟩
  refine ⟨YH a rfl,?_⟩
  refine Xr (nm:=[116,104,114,101,97,100,115]) ob (show 1<=12 by decide) (by decide) d.2.1 (ht.ext b) fun g4 ob k=>?_
  have a:=ZG a k (by omega)
  have b:=b.updS k fun j g=>by omega
  refine ⟨YH a rfl,?_⟩
  refine ⟨YH a rfl,?_⟩
  refine ⟨YH a rfl,?_⟩
  refine Xr (nm:=[114,116]) ob (show 2<=12 by decide) (by decide) d.2.2.1 (ht.ext b) fun g5 ob l=>?_
  have a:=ZG a l (by omega)
  have b:=b.updS l fun j g=>by omega
  refine ⟨YH a rfl,?_⟩
  refine ⟨YH a rfl,?_⟩
  refine Xr (nm:=[108,111,97,100]) ob (show 3<=12 by decide) (by decide) d.2.2.2.1 (ht.ext b) fun g6 ob m=>?_
  have a:=ZG a m (by omega)
  have b:=b.updS m fun j g=>by omega
  refine ⟨YH a rfl,?_⟩
  refine Xr (nm:=[99,112,117]) ob (show 4<=12 by decide) (by decide) d.2.2.2.2 (ht.ext b) fun g7 ob n=>?_
  have a:=ZG a n (by omega)
  have b:=b.updS n fun j g=>by omega
  exact Zlf ob (by omega) b (by rw [show (XD f)=ZhK [([113,112,115],ZcY f.qps),([116,104,114,101,97,100,115],ZcY f.threads),([114,116],ZcY f.rt),([108,111,97,100],ZcY f.load),([99,112,117],ZcY f.cpu)] from by unfold XD;rw [ZB2,ZiX,ZGp,ZxE,ZB3]];rfl) p
theorem ZAv {c:Zc} {f:BL × Int} (i:f.1.length<=20000000) (k:Zhv f.2) (ht:ZaT c) {K:Option Addr->HP} (l:∀ o z T h',Ext c h'->obj h' o=some (.cells (Xq z).toArray T (0,0))->ZaS h' (fr h' (sz c)) z (Zd4 f)->K (At o) h'):Zb9 (Zj f.1,f.2,()) K c:=by
  unfold Zb9 Zfq
  refine YZ fun d m b p=>?_
  have q:sz c=c.size:=rfl
  have s1:sz d=d.size:=rfl
  have a:obj d c.size=some (.cells [sV f.1,i64 f.2].toArray 203 (0,0)):=m
  refine rS (Zb a rfl) ?_
  refine rI (Zb a rfl) ?_
  refine ZdI fun o g2 e ob=>?_
  have a:=Zn a e
  have b:=b.trans e
  have r:sz d<=o:=ob.ge
  refine ⟨YH a rfl,?_⟩
  refine ⟨YH a rfl,?_⟩
  refine ZhE (nm:=[118,97,108,117,101]) (s:=f.1) ob (show 0<=12 by decide) (by decide) i fun g3 ob g=>?_
  have a:=ZG a g (by omega)
  have b:=b.updS g fun j n=>by omega
  refine ⟨YH a rfl,?_⟩
  refine Xr (nm:=[99,111,117,110,116]) ob (show 1<=12 by decide) (by decide) k (ht.ext b) fun g4 ob h=>?_
  have a:=ZG a h (by omega)
  have b:=b.updS h fun j n=>by omega
  exact Zlf ob (by omega) b (by rw [show (Zd4 f)=ZhK [([118,97,108,117,101],Zd2 f.1),([99,111,117,110,116],ZcY f.2)] from by unfold Zd4;rw [Zt5,ZfA]];rfl) l
theorem ZpE {t:Zc} {x:Sl} {l:List FlowP} {S:Nat->Prop} (P:Row t x 12 (l.flatMap Zd5)) (Q:inS S x) (hS:∀ j,S j->j<sz t) (F:∀ p,p∈l->(p.res.length<=20000000/\p.org.length<=20000000/\p.ref.length<=20000000)/\p.rng) (hw:wV (ZcX (l.map fun p=>ZdS p))<=40000000000) (ht:ZaT t) {K:VT5->HP}
    (hk:∀ z h',Ext t h'->ZaS h' (fr h' (sz t)) z (ZcX (l.map fun p=>ZdS p))->K z h'):Yj x K t:=by
  unfold Yj Y3
  refine YZ fun v c1 e1 z1=>?_
  have s0:sz t=t.size:=rfl
  have s1:sz v=v.size:=rfl
  have R:obj v t.size=some (.cells zV.toArray 33 (0,0)):=c1
  have hlen:=ZaJ (c:=Zd5) (n:=12) (fun _=>rfl) P (by decide)
  have big:=P.big
  have cap:=P.cap
  have al:pw (ZdC (l.map fun p=>ZdS p))<=40000000000:=by simp only [wV,ZcX] at hw;omega
  have ad:l.length<=40000000000:=by have:=Zey (ZdC (l.map fun p=>ZdS p));rw [Za8,Ayx] at this;omega
  refine Zv (fun p h'=>∃ (i:Nat) (vs:List Value),p.2.1=i/\i<=l.length/\Own h' (sz v) p.1 4 vs/\XC h' (fun j=>sz v<=j/\j<sz h'/\p.1.blk≠some j) (ZdC ((l.take i).map fun p=>ZdS p)) vs/\Ext v h') (fun p _=>(l.length - p.2.1).toNat)
    ⟨0,[],rfl,Ayk _,Own.nil _ _ _,rfl,Ext.refl _⟩ ?_
  rintro ⟨out,i_,u⟩ H ⟨i,vs,hi,an,own,k,D⟩
  dsimp only at hi own k ⊢
  subst hi
  have s3:sz H=H.size:=rfl
  have w:=e1.trans D
  have ao:out.len=i:=by have:=own.len;have:=k.len;rw [Za8,Ayx,Ayo] at this;omega
  have G:∀ {j:Nat},out.blk=some j->sz v<=j/\j<sz H:=fun e=>own.lt e
  refine Zq (fun aq=>?_) fun ar=>?_
  ·have U:i<l.length:=by omega
   obtain ⟨p,hp⟩:∃ p,l[i]?=some p:=⟨l[i],Ayb U⟩
   have J:=F p (Axq hp)
   refine Zb0 (c:=Zd5) (fun _=>rfl) (Ym P Q fun b _ a=>Zu w a) (by decide) hp rfl fun b o g=>?_
   refine ⟨_,g 0 _ rfl,_,g 1 _ rfl,_,g 2 _ rfl,_,g 3 _ rfl,_,g 4 _ rfl,_,g 5 _ rfl,_,g 6 _ rfl,_,g 7 _ rfl,_,g 8 _ rfl,_,g 9 _ rfl,_,g 10 _ rfl,_,g 11 _ rfl,YZ fun L V W au=>ZfK V (by show 12<=12;omega) rfl fun m d X av=>?_⟩
   have aw:sz L=L.size:=rfl
   have ax:sz m=m.size:=rfl
   have E:Ext H m:=W.updS X fun j I=>by subst I;exact Aqo _
   refine rS (Zb d rfl) (rS (Zb d rfl) (rBl (Zb d rfl) (rI (Zb d rfl) (rI (Zb d rfl) (rS (Zb d rfl) (rI (Zb d rfl) (rI (Zb d rfl) (rI (Zb d rfl) (rBl (Zb d rfl) (rI (Zb d rfl) (rBl (Zb d rfl) (?_))))))))))))
   have t18:ZaT m:=ht.ext (w.trans E)
   refine ZAw (f:=p) J.1 J.2 t18 fun o z T h M A Y=>?_
   have ay:sz h=h.size:=rfl
   have af:sz m<=sz h:=M.size
   have q:Ext H h:=E.trans M
   refine Zo (rI (Zb A rfl) (rS (Zb A rfl) (rL (s:=z.2.2.1) (Zb A rfl) (rL (s:=z.2.2.2.1) (Zb A rfl) ?_))))
   refine Zcr (cells:=Xq z) (own.congr fun b _ a _=>Zu q a) rfl (ZcA z) rfl (by omega) (by omega) (by have:=D.size;omega) fun s' B Z C aa=>?_
   have az:sz B=B.size:=rfl
   have ag:sz h<=sz B:=C.size
   rw [YA (by omega) (by omega)]
   have N:∀ j,s'.blk=some j->out.blk=some j\/sz h<=j:=fun j e=>by
     rcases aa with r | ⟨c,r,D⟩
     ·left;rw [<- r];exact e
     ·right;rw [e] at r;cases r;exact D
   refine ⟨⟨i+1,vs++Xq z,rfl,by omega,Z,?_,(D.trans q).updS C fun j I=>by have:=(G I).1;omega⟩,by omega⟩
   have ab:(l.take (i+1)).map (fun p=>ZdS p)=(l.take i).map (fun p=>ZdS p)++[ZdS p]:=by rw [Ayu,hp];simp
   rw [ab,Zf8]
   refine XC.snoc (Y.keep (S':=fun j=>sz v<=j/\j<sz B/\s'.blk≠some j) (fun b a F=>Zt C F fun e=>by have:=a.1;have:=(G e).2;omega) fun b a=>⟨by have:=a.1;have:=D.size;omega,by have:=a.2;omega,fun e=>?_⟩) (k.keep (fun b a F=>?_) fun b a=>⟨a.1,by omega,fun e=>?_⟩)
   ·have aA:=a.1
    have aB:=a.2
    rcases N b e with r | r
    ·have:=(G r).2;omega
    ·omega
   ·rw [Zt C (by omega) fun e=>a.2.2 e]
    exact Zu q F
   ·rcases N b e with r | r
    ·exact a.2.2 r
    ·omega
  ·have:i=l.length:=by omega
   subst this
   rw [Awd (Aqo _)] at k
   refine ZdK (S:=fun j=>sz v<=j/\j<sz H) own.row (fun _ b a=>own.lt a) (k.keep (fun _ _ _=>rfl) fun b a=>⟨a.1,a.2.1⟩) (fun j I=>I.2) (by omega) fun z aC O Y=>?_
   refine ZbF (x:=z.2.2.1) (y:=z.2.2.2.1) (Zn R (D.trans O)) rfl fun h5 u5 z5=>hk _ h5 ((w.trans O).updS u5 fun j I=>by omega) ?_
   have:=w.size
   have:=D.size
   exact Y.keep (fun b a F=>Zt u5 F fun e=>by have:=a.1;omega) fun b a=>⟨by have:=a.1;omega,by have:=a.2;omega⟩
theorem ZnO {t:Zc} {x:Sl} {l:List Yx} {S:Nat->Prop} (P:Row t x 7 (l.flatMap Zcu)) (Q:inS S x) (hS:∀ j,S j->j<sz t) (F:∀ p,p∈l->p.res.length<=20000000/\p.rng) (hw:wV (ZcX (l.map fun p=>ZaQ p))<=40000000000) (ht:ZaT t) {K:VT5->HP}
    (hk:∀ z h',Ext t h'->ZaS h' (fr h' (sz t)) z (ZcX (l.map fun p=>ZaQ p))->K z h'):Z9 x K t:=by
  unfold Z9 YX
  refine YZ fun v c1 e1 z1=>?_
  have s0:sz t=t.size:=rfl
  have s1:sz v=v.size:=rfl
  have R:obj v t.size=some (.cells zV.toArray 33 (0,0)):=c1
  have hlen:=ZaJ (c:=Zcu) (n:=7) (fun _=>rfl) P (by decide)
  have big:=P.big
  have cap:=P.cap
  have al:pw (ZdC (l.map fun p=>ZaQ p))<=40000000000:=by simp only [wV,ZcX] at hw;omega
  have ad:l.length<=40000000000:=by have:=Zey (ZdC (l.map fun p=>ZaQ p));rw [Za8,Ayx] at this;omega
  refine Zv (fun p h'=>∃ (i:Nat) (vs:List Value),p.2.1=i/\i<=l.length/\Own h' (sz v) p.1 4 vs/\XC h' (fun j=>sz v<=j/\j<sz h'/\p.1.blk≠some j) (ZdC ((l.take i).map fun p=>ZaQ p)) vs/\Ext v h') (fun p _=>(l.length - p.2.1).toNat)
    ⟨0,[],rfl,Ayk _,Own.nil _ _ _,rfl,Ext.refl _⟩ ?_
  rintro ⟨out,i_,u⟩ H ⟨i,vs,hi,an,own,k,D⟩
  dsimp only at hi own k ⊢
  subst hi
  have s3:sz H=H.size:=rfl
  have w:=e1.trans D
  have ao:out.len=i:=by have:=own.len;have:=k.len;rw [Za8,Ayx,Ayo] at this;omega
  have G:∀ {j:Nat},out.blk=some j->sz v<=j/\j<sz H:=fun e=>own.lt e
  refine Zq (fun aq=>?_) fun ar=>?_
  ·have U:i<l.length:=by omega
   obtain ⟨p,hp⟩:∃ p,l[i]?=some p:=⟨l[i],Ayb U⟩
   have J:=F p (Axq hp)
   refine Zb0 (c:=Zcu) (fun _=>rfl) (Ym P Q fun b _ a=>Zu w a) (by decide) hp rfl fun b o g=>?_
   refine ⟨_,g 0 _ rfl,_,g 1 _ rfl,_,g 2 _ rfl,_,g 3 _ rfl,_,g 4 _ rfl,_,g 5 _ rfl,_,g 6 _ rfl,YZ fun L V W au=>ZfK V (by show 7<=7;omega) rfl fun m d X av=>?_⟩
   have aw:sz L=L.size:=rfl
   have ax:sz m=m.size:=rfl
   have E:Ext H m:=W.updS X fun j I=>by subst I;exact Aqo _
   refine rS (Zb d rfl) (rI (Zb d rfl) (rI (Zb d rfl) (rI (Zb d rfl) (rI (Zb d rfl) (rI (Zb d rfl) (rI (Zb d rfl) (?_)))))))
   have t18:ZaT m:=ht.ext (w.trans E)
   refine Zvz (f:=p) J.1 J.2 t18 fun o z T h M A Y=>?_
   have ay:sz h=h.size:=rfl
   have af:sz m<=sz h:=M.size
   have q:Ext H h:=E.trans M
   refine Zo (rI (Zb A rfl) (rS (Zb A rfl) (rL (s:=z.2.2.1) (Zb A rfl) (rL (s:=z.2.2.2.1) (Zb A rfl) ?_))))
   refine Zcr (cells:=Xq z) (own.congr fun b _ a _=>Zu q a) rfl (ZcA z) rfl (by omega) (by omega) (by have:=D.size;omega) fun s' B Z C aa=>?_
   have az:sz B=B.size:=rfl
   have ag:sz h<=sz B:=C.size
   rw [YA (by omega) (by omega)]
   have N:∀ j,s'.blk=some j->out.blk=some j\/sz h<=j:=fun j e=>by
     rcases aa with r | ⟨c,r,D⟩
     ·left;rw [<- r];exact e
     ·right;rw [e] at r;cases r;exact D
   refine ⟨⟨i+1,vs++Xq z,rfl,by omega,Z,?_,(D.trans q).updS C fun j I=>by have:=(G I).1;omega⟩,by omega⟩
   have ab:(l.take (i+1)).map (fun p=>ZaQ p)=(l.take i).map (fun p=>ZaQ p)++[ZaQ p]:=by rw [Ayu,hp];simp
   rw [ab,Zf8]
   refine XC.snoc (Y.keep (S':=fun j=>sz v<=j/\j<sz B/\s'.blk≠some j) (fun b a F=>Zt C F fun e=>by have:=a.1;have:=(G e).2;omega) fun b a=>⟨by have:=a.1;have:=D.size;omega,by have:=a.2;omega,fun e=>?_⟩) (k.keep (fun b a F=>?_) fun b a=>⟨a.1,by omega,fun e=>?_⟩)
   ·have aA:=a.1
    have aB:=a.2
    rcases N b e with r | r
    ·have:=(G r).2;omega
    ·omega
   ·rw [Zt C (by omega) fun e=>a.2.2 e]
    exact Zu q F
   ·rcases N b e with r | r
    ·exact a.2.2 r
    ·omega
  ·have:i=l.length:=by omega
   subst this
   rw [Awd (Aqo _)] at k
   refine ZdK (S:=fun j=>sz v<=j/\j<sz H) own.row (fun _ b a=>own.lt a) (k.keep (fun _ _ _=>rfl) fun b a=>⟨a.1,a.2.1⟩) (fun j I=>I.2) (by omega) fun z aC O Y=>?_
   refine ZbF (x:=z.2.2.1) (y:=z.2.2.2.1) (Zn R (D.trans O)) rfl fun h5 u5 z5=>hk _ h5 ((w.trans O).updS u5 fun j I=>by omega) ?_
   have:=w.size
   have:=D.size
   exact Y.keep (fun b a F=>Zt u5 F fun e=>by have:=a.1;omega) fun b a=>⟨by have:=a.1;omega,by have:=a.2;omega⟩
theorem Zmb {t:Zc} {x:Sl} {l:List Y4} {S:Nat->Prop} (O:Row t x 5 (l.flatMap ZbG)) (P:inS S x) (hS:∀ j,S j->j<sz t) (F:∀ p,p∈l->p.rng) (hw:wV (ZcX (l.map fun p=>XD p))<=40000000000) (ht:ZaT t) {K:VT5->HP}
    (hk:∀ z h',Ext t h'->ZaS h' (fr h' (sz t)) z (ZcX (l.map fun p=>XD p))->K z h'):Z3 x K t:=by
  unfold Z3 YN
  refine YZ fun v c1 e1 z1=>?_
  have s0:sz t=t.size:=rfl
  have s1:sz v=v.size:=rfl
  have Q:obj v t.size=some (.cells zV.toArray 33 (0,0)):=c1
  have hlen:=ZaJ (c:=ZbG) (n:=5) (fun _=>rfl) O (by decide)
  have big:=O.big
  have cap:=O.cap
  have al:pw (ZdC (l.map fun p=>XD p))<=40000000000:=by simp only [wV,ZcX] at hw;omega
  have ad:l.length<=40000000000:=by have:=Zey (ZdC (l.map fun p=>XD p));rw [Za8,Ayx] at this;omega
  refine Zv (fun p h'=>∃ (i:Nat) (vs:List Value),p.2.1=i/\i<=l.length/\Own h' (sz v) p.1 4 vs/\XC h' (fun j=>sz v<=j/\j<sz h'/\p.1.blk≠some j) (ZdC ((l.take i).map fun p=>XD p)) vs/\Ext v h') (fun p _=>(l.length - p.2.1).toNat)
    ⟨0,[],rfl,Ayk _,Own.nil _ _ _,rfl,Ext.refl _⟩ ?_
  rintro ⟨out,i_,u⟩ H ⟨i,vs,hi,an,own,h,D⟩
  dsimp only at hi own h ⊢
  subst hi
  have s3:sz H=H.size:=rfl
  have w:=e1.trans D
  have ao:out.len=i:=by have:=own.len;have:=h.len;rw [Za8,Ayx,Ayo] at this;omega
  have G:∀ {j:Nat},out.blk=some j->sz v<=j/\j<sz H:=fun e=>own.lt e
  refine Zq (fun aq=>?_) fun ar=>?_
  ·have R:i<l.length:=by omega
   obtain ⟨p,hp⟩:∃ p,l[i]?=some p:=⟨l[i],Ayb R⟩
   have U:=F p (Axq hp)
   refine Zb0 (c:=ZbG) (fun _=>rfl) (Ym O P fun b _ a=>Zu w a) (by decide) hp rfl fun b o g=>?_
   refine ⟨_,g 0 _ rfl,_,g 1 _ rfl,_,g 2 _ rfl,_,g 3 _ rfl,_,g 4 _ rfl,YZ fun J V W au=>ZfK V (by show 5<=5;omega) rfl fun k m X av=>?_⟩
   have aw:sz J=J.size:=rfl
   have ax:sz k=k.size:=rfl
   have E:Ext H k:=W.updS X fun j I=>by subst I;exact Aqo _
   refine rI (Zb m rfl) (rI (Zb m rfl) (rI (Zb m rfl) (rI (Zb m rfl) (rI (Zb m rfl) (?_)))))
   have t18:ZaT k:=ht.ext (w.trans E)
   refine Zvx (f:=p) U t18 fun o z T d L A Y=>?_
   have ay:sz d=d.size:=rfl
   have af:sz k<=sz d:=L.size
   have q:Ext H d:=E.trans L
   refine Zo (rI (Zb A rfl) (rS (Zb A rfl) (rL (s:=z.2.2.1) (Zb A rfl) (rL (s:=z.2.2.2.1) (Zb A rfl) ?_))))
   refine Zcr (cells:=Xq z) (own.congr fun b _ a _=>Zu q a) rfl (ZcA z) rfl (by omega) (by omega) (by have:=D.size;omega) fun s' B Z C aa=>?_
   have az:sz B=B.size:=rfl
   have ag:sz d<=sz B:=C.size
   rw [YA (by omega) (by omega)]
   have M:∀ j,s'.blk=some j->out.blk=some j\/sz d<=j:=fun j e=>by
     rcases aa with r | ⟨c,r,D⟩
     ·left;rw [<- r];exact e
     ·right;rw [e] at r;cases r;exact D
   refine ⟨⟨i+1,vs++Xq z,rfl,by omega,Z,?_,(D.trans q).updS C fun j I=>by have:=(G I).1;omega⟩,by omega⟩
   have ab:(l.take (i+1)).map (fun p=>XD p)=(l.take i).map (fun p=>XD p)++[XD p]:=by rw [Ayu,hp];simp
   rw [ab,Zf8]
   refine XC.snoc (Y.keep (S':=fun j=>sz v<=j/\j<sz B/\s'.blk≠some j) (fun b a F=>Zt C F fun e=>by have:=a.1;have:=(G e).2;omega) fun b a=>⟨by have:=a.1;have:=D.size;omega,by have:=a.2;omega,fun e=>?_⟩) (h.keep (fun b a F=>?_) fun b a=>⟨a.1,by omega,fun e=>?_⟩)
   ·have aA:=a.1
    have aB:=a.2
    rcases M b e with r | r
    ·have:=(G r).2;omega
    ·omega
   ·rw [Zt C (by omega) fun e=>a.2.2 e]
    exact Zu q F
   ·rcases M b e with r | r
    ·exact a.2.2 r
    ·omega
  ·have:i=l.length:=by omega
   subst this
   rw [Awd (Aqo _)] at h
   refine ZdK (S:=fun j=>sz v<=j/\j<sz H) own.row (fun _ b a=>own.lt a) (h.keep (fun _ _ _=>rfl) fun b a=>⟨a.1,a.2.1⟩) (fun j I=>I.2) (by omega) fun z aC N Y=>?_
   refine ZbF (x:=z.2.2.1) (y:=z.2.2.2.1) (Zn Q (D.trans N)) rfl fun h5 u5 z5=>hk _ h5 ((w.trans N).updS u5 fun j I=>by omega) ?_
   have:=w.size
   have:=D.size
   exact Y.keep (fun b a F=>Zt u5 F fun e=>by have:=a.1;omega) fun b a=>⟨by have:=a.1;omega,by have:=a.2;omega⟩
theorem ZpD {r:Zc} {x:Sl} {l:List (BL × Int)} {S:Nat->Prop} (P:Row r x 2 (l.flatMap (fun p:BL × Int=>[sV p.1,i64 p.2]))) (Q:inS S x) (hS:∀ j,S j->j<sz r) (E:∀ p,p∈l->p.1.length<=20000000/\Zhv p.2) (hw:wV (ZcX (l.map fun p=>Zd4 p))<=40000000000) (ht:ZaT r) {K:VT5->HP}
    (hk:∀ z h',Ext r h'->ZaS h' (fr h' (sz r)) z (ZcX (l.map fun p=>Zd4 p))->K z h'):Yg x K r:=by
  unfold Yg Y1
  refine YZ fun t c1 e1 z1=>?_
  have s0:sz r=r.size:=rfl
  have s1:sz t=t.size:=rfl
  have R:obj t r.size=some (.cells zV.toArray 33 (0,0)):=c1
  have hlen:=ZaJ (c:=(fun p:BL × Int=>[sV p.1,i64 p.2])) (n:=2) (fun _=>rfl) P (by decide)
  have big:=P.big
  have cap:=P.cap
  have al:pw (ZdC (l.map fun p=>Zd4 p))<=40000000000:=by simp only [wV,ZcX] at hw;omega
  have ad:l.length<=40000000000:=by have:=Zey (ZdC (l.map fun p=>Zd4 p));rw [Za8,Ayx] at this;omega
  refine Zv (fun p h'=>∃ (i:Nat) (vs:List Value),p.2.1=i/\i<=l.length/\Own h' (sz t) p.1 4 vs/\XC h' (fun j=>sz t<=j/\j<sz h'/\p.1.blk≠some j) (ZdC ((l.take i).map fun p=>Zd4 p)) vs/\Ext t h') (fun p _=>(l.length - p.2.1).toNat)
    ⟨0,[],rfl,Ayk _,Own.nil _ _ _,rfl,Ext.refl _⟩ ?_
  rintro ⟨out,i_,u⟩ G ⟨i,vs,hi,an,own,h,C⟩
  dsimp only at hi own h ⊢
  subst hi
  have s3:sz G=G.size:=rfl
  have v:=e1.trans C
  have ao:out.len=i:=by have:=own.len;have:=h.len;rw [Za8,Ayx,Ayo] at this;omega
  have F:∀ {j:Nat},out.blk=some j->sz t<=j/\j<sz G:=fun e=>own.lt e
  refine Zq (fun aq=>?_) fun ar=>?_
  ·have U:i<l.length:=by omega
   obtain ⟨p,hp⟩:∃ p,l[i]?=some p:=⟨l[i],Ayb U⟩
   have I:=E p (Axq hp)
   refine Zb0 (c:=(fun p:BL × Int=>[sV p.1,i64 p.2])) (fun _=>rfl) (Ym P Q fun b _ a=>Zu v a) (by decide) hp rfl fun b o g=>?_
   refine ⟨_,g 0 _ rfl,_,g 1 _ rfl,YZ fun J V W au=>ZfK V (by show 2<=2;omega) rfl fun k L X av=>?_⟩
   have aw:sz J=J.size:=rfl
   have ax:sz k=k.size:=rfl
   have D:Ext G k:=W.updS X fun j H=>by subst H;exact Aqo _
   refine rS (Zb L rfl) (rI (Zb L rfl) (?_))
   have t18:ZaT k:=ht.ext (v.trans D)
   refine ZAv (f:=p) I.1 I.2 t18 fun o z T d M w Y=>?_
   have ay:sz d=d.size:=rfl
   have af:sz k<=sz d:=M.size
   have m:Ext G d:=D.trans M
   refine Zo (rI (Zb w rfl) (rS (Zb w rfl) (rL (s:=z.2.2.1) (Zb w rfl) (rL (s:=z.2.2.2.1) (Zb w rfl) ?_))))
   refine Zcr (cells:=Xq z) (own.congr fun b _ a _=>Zu m a) rfl (ZcA z) rfl (by omega) (by omega) (by have:=C.size;omega) fun s' A Z B aa=>?_
   have az:sz A=A.size:=rfl
   have ag:sz d<=sz A:=B.size
   rw [YA (by omega) (by omega)]
   have N:∀ j,s'.blk=some j->out.blk=some j\/sz d<=j:=fun j e=>by
     rcases aa with q | ⟨c,q,C⟩
     ·left;rw [<- q];exact e
     ·right;rw [e] at q;cases q;exact C
   refine ⟨⟨i+1,vs++Xq z,rfl,by omega,Z,?_,(C.trans m).updS B fun j H=>by have:=(F H).1;omega⟩,by omega⟩
   have ab:(l.take (i+1)).map (fun p=>Zd4 p)=(l.take i).map (fun p=>Zd4 p)++[Zd4 p]:=by rw [Ayu,hp];simp
   rw [ab,Zf8]
   refine XC.snoc (Y.keep (S':=fun j=>sz t<=j/\j<sz A/\s'.blk≠some j) (fun b a E=>Zt B E fun e=>by have:=a.1;have:=(F e).2;omega) fun b a=>⟨by have:=a.1;have:=C.size;omega,by have:=a.2;omega,fun e=>?_⟩) (h.keep (fun b a E=>?_) fun b a=>⟨a.1,by omega,fun e=>?_⟩)
   ·have aA:=a.1
    have aB:=a.2
    rcases N b e with q | q
    ·have:=(F q).2;omega
    ·omega
   ·rw [Zt B (by omega) fun e=>a.2.2 e]
    exact Zu m E
   ·rcases N b e with q | q
    ·exact a.2.2 q
    ·omega
  ·have:i=l.length:=by omega
   subst this
   rw [Awd (Aqo _)] at h
   refine ZdK (S:=fun j=>sz t<=j/\j<sz G) own.row (fun _ b a=>own.lt a) (h.keep (fun _ _ _=>rfl) fun b a=>⟨a.1,a.2.1⟩) (fun j H=>H.2) (by omega) fun z aC O Y=>?_
   refine ZbF (x:=z.2.2.1) (y:=z.2.2.2.1) (Zn R (C.trans O)) rfl fun h5 u5 z5=>hk _ h5 ((v.trans O).updS u5 fun j H=>by omega) ?_
   have:=v.size
   have:=C.size
   exact Y.keep (fun b a E=>Zt u5 E fun e=>by have:=a.1;omega) fun b a=>⟨by have:=a.1;omega,by have:=a.2;omega⟩
theorem ZEe {d:Zc} {f:Zew} {x:Sl} {S:Nat->Prop} (w:f.res.length<=20000000) (k:f.rng) (y:Row d x 2 (ZfF f.items)) (g:inS S x) (n:∀ j,S j->j<sz d) (A:∀ p,p∈f.items->p.1.length<=20000000) (i:wV (ZcX (f.items.map Zd4))<=40000000000) (ht:ZaT d) {K:Option Addr->HP} (B:∀ o z T h',Ext d h'->obj h' o=some (.cells (Xq z).toArray T (0,0))->ZaS h' (fr h' (sz d)) z (Zig f)->K (At o) h'):ZdB (ZFC x f) K d:=by
  unfold ZdB Zg4
  refine YZ fun l C c F=>?_
  have G:sz d=d.size:=rfl
  have s1:sz l=l.size:=rfl
  have a:obj l d.size=some (.cells (ZlF (x,f)).toArray 85 (0,0)):=C
  refine rS (Zb a rfl) ?_
  refine rI (Zb a rfl) ?_
  refine rI (Zb a rfl) ?_
  refine rI (Zb a rfl) ?_
  refine ZdI fun o g2 q ob=>?_
  have a:=Zn a q
  have c:=c.trans q
  have H:sz l<=o:=ob.ge
  refine ⟨YH a rfl,?_⟩
  refine ⟨YH a rfl,?_⟩
  refine ⟨YH a rfl,?_⟩
  refine ⟨YH a rfl,?_⟩
  refine ZhE (nm:=[114,101,115,111,117,114,99,101]) (s:=f.res) ob (show 0<=12 by decide) (by decide) w fun g3 ob r=>?_
  have a:=ZG a r (by omega)
  have c:=c.updS r fun j e=>by omega
  refine ⟨YH a rfl,?_⟩
  refine ⟨YH a rfl,?_⟩
  refine ⟨YH a rfl,?_⟩
  refine Xr (nm:=[105,110,100,101,120]) ob (show 1<=12 by decide) (by decide) k.1 (ht.ext c) fun g4 ob t=>?_
  have a:=ZG a t (by omega)
  have c:=c.updS t fun j e=>by omega
  refine ⟨YH a rfl,?_⟩
  refine ⟨YH a rfl,?_⟩
  refine Xr (nm:=[99,111,117,110,116]) ob (show 2<=12 by decide) (by decide) k.2.1 (ht.ext c) fun g5 ob u=>?_
  have a:=ZG a u (by omega)
  have c:=c.updS u fun j e=>by omega
  refine ⟨YH a rfl,?_⟩
  refine Xr (nm:=[115,101,99,111,110,100,115]) ob (show 3<=12 by decide) (by decide) k.2.2.1 (ht.ext c) fun g6 ob v=>?_
  have a:=ZG a v (by omega)
  have c:=c.updS v fun j e=>by omega
  refine rL (s:=x) (Zb a rfl) ?_
  refine ZpD (S:=S) (Ym y g fun b _ D=>Zu c D) g (fun j e=>by have:=n j e;have:=c.size;have:sz d=d.size:=rfl;exact Aqq (n j e) c.size) (fun p hp=>⟨A p hp,k.2.2.2 p hp⟩) i (ht.ext c) fun z g7 m E=>?_
  have a:=Zn a m
  have c:=c.trans m
  have ob:=ob.ext m
  refine Zc8 (nm:=[105,116,101,109,115]) ob E (fun _ h=>h.2) (show 4<=12 by decide) ⟨show 5<=20 by decide,i⟩ fun g8 ob u8=>?_
  have a:=ZG a u8 (by omega)
  have c:=c.updS u8 fun j e=>by omega
  exact Zlf ob (by omega) c (by rw [show (Zig f)=ZhK [([114,101,115,111,117,114,99,101],Zd2 f.res),([105,110,100,101,120],ZcY f.index),([99,111,117,110,116],ZcY f.cnt),([115,101,99,111,110,100,115],ZcY f.secs),([105,116,101,109,115],ZcX (f.items.map Zd4))] from by unfold Zig;rw [Zbc,ZpQ,ZfA,ZkQ,ZpP]];rfl) B
theorem ZAu {A:Zc} {f:ZaI} {x:Sl} {S:Nat->Prop} (hx:f.res.length<=20000000) (H:Row A x 1 (f.origins.map sV)) (L:inS S x) (hS:∀ j,S j->j<sz A) (E:wV (ZcX (f.origins.map Zd2))<=40000000000) {K:Option Addr->HP} (hk:∀ o z T h',Ext A h'->obj h' o=some (.cells (Xq z).toArray T (0,0))->ZaS h' (fr h' (sz A)) z (Zcd f)->K (At o) h'):ZcJ (Zwh x f) K A:=by
  unfold ZcJ Zgg
  refine YZ fun g1 c1 f1 z1=>?_
  have s0:sz A=A.size:=rfl
  have s1:sz g1=g1.size:=rfl
  have Y:obj g1 A.size=some (.cells (Zgt (x,f)).toArray 95 (0,0)):=c1
  have hlen:=Zb3 H
  have big:=H.big
  have cap:=H.cap
  have ag:pw (ZdC (f.origins.map Zd2))<=40000000000:=by simp only [wV,ZcX] at E;omega
  have Z:f.origins.length<=40000000000:=by have:=Zey (ZdC (f.origins.map Zd2));rw [Za8,Ayx] at this;omega
  refine rL (s:=x) (Zb Y rfl) (Zv (fun p h'=>∃ (i:Nat) (vs:List Value),p.2.1=i/\i<=f.origins.length/\Own h' (sz g1) p.1 4 vs/\XC h' (fun j=>sz g1<=j/\j<sz h'/\p.1.blk≠some j) (ZdC ((f.origins.take i).map Zd2)) vs/\Ext g1 h') (fun p _=>(f.origins.length - p.2.1).toNat)
    ⟨0,[],rfl,Ayk _,Own.nil _ _ _,rfl,Ext.refl _⟩ ?_)
  rintro ⟨out,i_,u⟩ q ⟨i,vs,F,ah,own,m,B⟩
  dsimp only at F own m ⊢
  subst F
  have s3:sz q=q.size:=rfl
  have C:=f1.trans B
  have ai:out.len=i:=by have:=own.len;have:=m.len;rw [Za8,Ayx,Ayo] at this;omega
  have M:∀ {j:Nat},out.blk=some j->sz g1<=j/\j<sz q:=fun e=>own.lt e
  refine Zq (fun aj=>?_) fun ak=>?_
  ·have N:i<f.origins.length:=by omega
   obtain ⟨t,ht⟩:∃ t,f.origins[i]?=some t:=⟨f.origins[i],Ayb N⟩
   refine ZgQ (Ym H L fun b _ g=>Zu C g) ht rfl (ZjL fun r a=>?_)
   have al:sz r=r.size:=rfl
   refine Zcr (cells:=Xq (5,Zj t,⟨none,0,0⟩,⟨none,0,0⟩,())) (own.congr fun b _ g _=>Zu a g) rfl rfl rfl (by omega) (by omega) (by have:=B.size;have:=a.size;omega) fun s' w O D P=>?_
   have an:sz w=w.size:=rfl
   have aa:sz r<=sz w:=D.size
   have ab:=a.size
   rw [YA (by omega) (by omega)]
   have Q:∀ j,s'.blk=some j->out.blk=some j\/sz r<=j:=fun j e=>by
     rcases P with n | ⟨c,n,B⟩
     ·left;rw [<- n];exact e
     ·right;rw [e] at n;cases n;exact B
   refine ⟨⟨i+1,_,rfl,by omega,O,?_,(B.trans a).updS D fun j y=>by have:=(M y).1;omega⟩,by omega⟩
   have R:(f.origins.take (i+1)).map Zd2=(f.origins.take i).map Zd2++[Zd2 t]:=by rw [Ayu,ht];simp
   rw [R,Zf8]
   refine XC.snoc (v:=Zd2 t) (show ZaS w _ (5,Zj t,⟨none,0,0⟩,⟨none,0,0⟩,()) (Zd2 t) from ⟨rfl,rfl,Row.nil _ _,Zc4,[],Row.nil _ _,Zc4,rfl⟩) (m.keep (fun b g hl=>?_) fun b g=>⟨g.1,by omega,fun e=>?_⟩)
   ·rw [Zt D (by omega) fun e=>g.2.2 e]
    exact Zu a hl
   ·rcases Q b e with n | n
    ·exact g.2.2 n
    ·omega
  have:i=f.origins.length:=by omega
  subst this
  rw [Awd (Aqo _)] at m
  have d:=Zn Y B
  have l:=C
  have G:XC q (fun j=>sz g1<=j/\j<sz q) (ZdC (f.origins.map Zd2)) vs:=m.keep (fun _ _ _=>rfl) fun b g=>⟨g.1,g.2.1⟩
  have k:Ext q q:=Ext.refl _
  have sg:=C.size
  have aq:=B.size
  refine rS (Zb d rfl) ?_
  refine rBl (Zb d rfl) ?_
  refine ZdI fun o g2 n ob=>?_
  have d:=Zn d n
  have l:=l.trans n
  have k:=k.trans n
  have og:sz q<=o:=ob.ge
  refine ⟨YH d rfl,?_⟩
  refine ⟨YH d rfl,?_⟩
  refine ZhE (nm:=[114,101,115,111,117,114,99,101]) (s:=f.res) ob (show 0<=12 by decide) (by decide) hx fun g3 ob U=>?_
  have d:=ZG d U (by omega)
  have l:=l.updS U fun j y=>by omega
  have k:=k.updS U fun j y=>by omega
  refine ⟨YH d rfl,?_⟩
  refine ZhD fun z g4 I V=>?_
  have d:=Zn d I
  have l:=l.trans I
  have k:=k.trans I
  have ob:=ob.ext I
  refine Zc8 (nm:=[119,104,105,116,101]) ob V (fun _ h=>h.elim) (show 1<=12 by decide) ⟨show 5<=20 by decide,ZlI _⟩ fun g5 ob W=>?_
  have d:=ZG d W (by omega)
  have l:=l.updS W fun j y=>by omega
  have k:=k.updS W fun j y=>by omega
  refine ZdK (S:=fun j=>sz g1<=j/\j<sz q) (own.row.ext k) (fun _ b g=>own.lt g) (G.keep (fun b _ g=>Zu k g) fun _ h=>h) (fun j y=>Aqq y.2 k.size) (by omega) fun z g6 J V=>?_
  have d:=Zn d J
  have l:=l.trans J
  have k:=k.trans J
  have ob:=ob.ext J
  refine Zc8 (nm:=[111,114,105,103,105,110,115]) ob V (fun _ h=>h.2) (show 2<=12 by decide) ⟨show 7<=20 by decide,E⟩ fun g7 ob X=>?_
  have d:=ZG d X (by omega)
  have l:=l.updS X fun j y=>by omega
  have k:=k.updS X fun j y=>by omega
  exact Zlf ob (by omega) l (by rw [show (Zcd f)=ZhK [([114,101,115,111,117,114,99,101],Zd2 f.res),([119,104,105,116,101],Zdm f.white),([111,114,105,103,105,110,115],ZcX (f.origins.map Zd2))] from by unfold Zcd;rw [Zbc,ZpO,ZkR]];rfl) hk
theorem Zrc {A:Zc} {x:Sl} {l:List (Sl × Zew)} {S:Nat->Prop} (Q:Row A x 5 (l.flatMap ZlF)) (R:inS S x) (hS:∀ j,S j->j<sz A) (I:∀ p,p∈l->p.2.res.length<=20000000/\p.2.rng/\ZHE A S p/\(∀ q,q∈p.2.items->q.1.length<=20000000)/\wV (ZcX (p.2.items.map Zd4))<=40000000000) (hw:wV (ZcX (l.map fun p=>Zig p.2))<=40000000000) (ht:ZaT A) {K:VT5->HP}
    (hk:∀ z h',Ext A h'->ZaS h' (fr h' (sz A)) z (ZcX (l.map fun p=>Zig p.2))->K z h'):Yl x K A:=by
  unfold Yl Xa
  refine YZ fun C c1 e1 z1=>?_
  have s0:sz A=A.size:=rfl
  have s1:sz C=C.size:=rfl
  have U:obj C A.size=some (.cells zV.toArray 33 (0,0)):=c1
  have hlen:=ZaJ (c:=ZlF) (n:=5) (fun _=>rfl) Q (by decide)
  have big:=Q.big
  have cap:=Q.cap
  have ao:pw (ZdC (l.map fun p=>Zig p.2))<=40000000000:=by simp only [wV,ZcX] at hw;omega
  have ae:l.length<=40000000000:=by have:=Zey (ZdC (l.map fun p=>Zig p.2));rw [Za8,Ayx] at this;omega
  refine Zv (fun p h'=>∃ (i:Nat) (vs:List Value),p.2.1=i/\i<=l.length/\Own h' (sz C) p.1 4 vs/\XC h' (fun j=>sz C<=j/\j<sz h'/\p.1.blk≠some j) (ZdC ((l.take i).map fun p=>Zig p.2)) vs/\Ext C h') (fun p _=>(l.length - p.2.1).toNat)
    ⟨0,[],rfl,Ayk _,Own.nil _ _ _,rfl,Ext.refl _⟩ ?_
  rintro ⟨out,i_,u⟩ L ⟨i,vs,hi,aq,own,r,G⟩
  dsimp only at hi own r ⊢
  subst hi
  have s3:sz L=L.size:=rfl
  have k:=e1.trans G
  have ar:out.len=i:=by have:=own.len;have:=r.len;rw [Za8,Ayx,Ayo] at this;omega
  have J:∀ {j:Nat},out.blk=some j->sz C<=j/\j<sz L:=fun e=>own.lt e
  refine Zq (fun au=>?_) fun av=>?_
  ·have V:i<l.length:=by omega
   obtain ⟨p,hp⟩:∃ p,l[i]?=some p:=⟨l[i],Ayb V⟩
   have d:=I p (Axq hp)
   refine Zb0 (c:=ZlF) (fun _=>rfl) (Ym Q R fun b _ a=>Zu k a) (by decide) hp rfl fun b o g=>?_
   refine ⟨_,g 0 _ rfl,_,g 1 _ rfl,_,g 2 _ rfl,_,g 3 _ rfl,p.1,g 4 _ rfl,YZ fun M W X aw=>ZfK W (by show 5<=5;omega) rfl fun t v Y ax=>?_⟩
   have ay:sz M=M.size:=rfl
   have az:sz t=t.size:=rfl
   have h:Ext L t:=X.updS Y fun j H=>by subst H;exact Aqo _
   refine rS (Zb v rfl) (rI (Zb v rfl) (rI (Zb v rfl) (rI (Zb v rfl) (rL (s:=p.1) (Zb v rfl) (?_)))))
   have t18:ZaT t:=ht.ext (k.trans h)
   refine ZEe (f:=p.2) (x:=p.1) (S:=S) d.1 d.2.1 (Ym d.2.2.1.1 d.2.2.1.2 fun b _ a=>Zu (k.trans h) a) d.2.2.1.2 (fun j H=>Aqq (hS j H) (k.trans h).size) d.2.2.2.1 d.2.2.2.2 t18 fun o z T m N D Z=>?_
   have aA:sz m=m.size:=rfl
   have ag:sz t<=sz m:=N.size
   have w:Ext L m:=h.trans N
   refine Zo (rI (Zb D rfl) (rS (Zb D rfl) (rL (s:=z.2.2.1) (Zb D rfl) (rL (s:=z.2.2.2.1) (Zb D rfl) ?_))))
   refine Zcr (cells:=Xq z) (own.congr fun b _ a _=>Zu w a) rfl (ZcA z) rfl (by omega) (by omega) (by have:=G.size;omega) fun s' E aa F ab=>?_
   have aB:sz E=E.size:=rfl
   have ah:sz m<=sz E:=F.size
   rw [YA (by omega) (by omega)]
   have O:∀ j,s'.blk=some j->out.blk=some j\/sz m<=j:=fun j e=>by
     rcases ab with B | ⟨c,B,G⟩
     ·left;rw [<- B];exact e
     ·right;rw [e] at B;cases B;exact G
   refine ⟨⟨i+1,vs++Xq z,rfl,by omega,aa,?_,(G.trans w).updS F fun j H=>by have:=(J H).1;omega⟩,by omega⟩
   have ad:(l.take (i+1)).map (fun p=>Zig p.2)=(l.take i).map (fun p=>Zig p.2)++[Zig p.2]:=by rw [Ayu,hp];simp
   rw [ad,Zf8]
   refine XC.snoc (Z.keep (S':=fun j=>sz C<=j/\j<sz E/\s'.blk≠some j) (fun b a I=>Zt F I fun e=>by have:=a.1;have:=(J e).2;omega) fun b a=>⟨by have:=a.1;have:=G.size;omega,by have:=a.2;omega,fun e=>?_⟩) (r.keep (fun b a I=>?_) fun b a=>⟨a.1,by omega,fun e=>?_⟩)
   ·have aC:=a.1
    have aD:=a.2
    rcases O b e with B | B
    ·have:=(J B).2;omega
    ·omega
   ·rw [Zt F (by omega) fun e=>a.2.2 e]
    exact Zu w I
   ·rcases O b e with B | B
    ·exact a.2.2 B
    ·omega
  ·have:i=l.length:=by omega
   subst this
   rw [Awd (Aqo _)] at r
   refine ZdK (S:=fun j=>sz C<=j/\j<sz L) own.row (fun _ b a=>own.lt a) (r.keep (fun _ _ _=>rfl) fun b a=>⟨a.1,a.2.1⟩) (fun j H=>H.2) (by omega) fun z aE P Z=>?_
   refine ZbF (x:=z.2.2.1) (y:=z.2.2.2.1) (Zn U (G.trans P)) rfl fun h5 u5 z5=>hk _ h5 ((k.trans P).updS u5 fun j H=>by omega) ?_
   have:=k.size
   have:=G.size
   exact Z.keep (fun b a I=>Zt u5 I fun e=>by have:=a.1;omega) fun b a=>⟨by have:=a.1;omega,by have:=a.2;omega⟩
theorem Zkc {v:Zc} {x:Sl} {l:List (Sl × ZaI)} {S:Nat->Prop} (P:Row v x 3 (l.flatMap Zgt)) (Q:inS S x) (hS:∀ j,S j->j<sz v) (G:∀ p,p∈l->p.2.res.length<=20000000/\Zvp v S p/\wV (ZcX (p.2.origins.map Zd2))<=40000000000) (hw:wV (ZcX (l.map fun p=>Zcd p.2))<=40000000000) (ht:ZaT v) {K:VT5->HP}
    (hk:∀ z h',Ext v h'->ZaS h' (fr h' (sz v)) z (ZcX (l.map fun p=>Zcd p.2))->K z h'):ZY x K v:=by
  unfold ZY YJ
  refine YZ fun A c1 e1 z1=>?_
  have s0:sz v=v.size:=rfl
  have s1:sz A=A.size:=rfl
  have R:obj A v.size=some (.cells zV.toArray 33 (0,0)):=c1
  have hlen:=ZaJ (c:=Zgt) (n:=3) (fun _=>rfl) P (by decide)
  have big:=P.big
  have cap:=P.cap
  have an:pw (ZdC (l.map fun p=>Zcd p.2))<=40000000000:=by simp only [wV,ZcX] at hw;omega
  have ad:l.length<=40000000000:=by have:=Zey (ZdC (l.map fun p=>Zcd p.2));rw [Za8,Ayx] at this;omega
  refine Zv (fun p h'=>∃ (i:Nat) (vs:List Value),p.2.1=i/\i<=l.length/\Own h' (sz A) p.1 4 vs/\XC h' (fun j=>sz A<=j/\j<sz h'/\p.1.blk≠some j) (ZdC ((l.take i).map fun p=>Zcd p.2)) vs/\Ext A h') (fun p _=>(l.length - p.2.1).toNat)
    ⟨0,[],rfl,Ayk _,Own.nil _ _ _,rfl,Ext.refl _⟩ ?_
  rintro ⟨out,i_,u⟩ J ⟨i,vs,hi,ao,own,m,E⟩
  dsimp only at hi own m ⊢
  subst hi
  have s3:sz J=J.size:=rfl
  have h:=e1.trans E
  have aq:out.len=i:=by have:=own.len;have:=m.len;rw [Za8,Ayx,Ayo] at this;omega
  have H:∀ {j:Nat},out.blk=some j->sz A<=j/\j<sz J:=fun e=>own.lt e
  refine Zq (fun ar=>?_) fun au=>?_
  ·have U:i<l.length:=by omega
   obtain ⟨p,hp⟩:∃ p,l[i]?=some p:=⟨l[i],Ayb U⟩
   have q:=G p (Axq hp)
   refine Zb0 (c:=Zgt) (fun _=>rfl) (Ym P Q fun b _ a=>Zu h a) (by decide) hp rfl fun b o g=>?_
   refine ⟨_,g 0 _ rfl,_,g 1 _ rfl,p.1,g 2 _ rfl,YZ fun L V W av=>ZfK V (by show 3<=3;omega) rfl fun r I X aw=>?_⟩
   have ax:sz L=L.size:=rfl
   have ay:sz r=r.size:=rfl
   have d:Ext J r:=W.updS X fun j F=>by subst F;exact Aqo _
   refine rS (Zb I rfl) (rBl (Zb I rfl) (rL (s:=p.1) (Zb I rfl) (?_)))
   have t18:ZaT r:=ht.ext (h.trans d)
   refine ZAu (f:=p.2) (x:=p.1) (S:=S) q.1 (Ym q.2.1.1 q.2.1.2 fun b _ a=>Zu (h.trans d) a) q.2.1.2 (fun j F=>Aqq (hS j F) (h.trans d).size) q.2.2 fun o z T k M B Y=>?_
   have az:sz k=k.size:=rfl
   have af:sz r<=sz k:=M.size
   have t:Ext J k:=d.trans M
   refine Zo (rI (Zb B rfl) (rS (Zb B rfl) (rL (s:=z.2.2.1) (Zb B rfl) (rL (s:=z.2.2.2.1) (Zb B rfl) ?_))))
   refine Zcr (cells:=Xq z) (own.congr fun b _ a _=>Zu t a) rfl (ZcA z) rfl (by omega) (by omega) (by have:=E.size;omega) fun s' C Z D aa=>?_
   have aA:sz C=C.size:=rfl
   have ag:sz k<=sz C:=D.size
   rw [YA (by omega) (by omega)]
   have N:∀ j,s'.blk=some j->out.blk=some j\/sz k<=j:=fun j e=>by
     rcases aa with w | ⟨c,w,E⟩
     ·left;rw [<- w];exact e
     ·right;rw [e] at w;cases w;exact E
   refine ⟨⟨i+1,vs++Xq z,rfl,by omega,Z,?_,(E.trans t).updS D fun j F=>by have:=(H F).1;omega⟩,by omega⟩
   have ab:(l.take (i+1)).map (fun p=>Zcd p.2)=(l.take i).map (fun p=>Zcd p.2)++[Zcd p.2]:=by rw [Ayu,hp];simp
   rw [ab,Zf8]
   refine XC.snoc (Y.keep (S':=fun j=>sz A<=j/\j<sz C/\s'.blk≠some j) (fun b a G=>Zt D G fun e=>by have:=a.1;have:=(H e).2;omega) fun b a=>⟨by have:=a.1;have:=E.size;omega,by have:=a.2;omega,fun e=>?_⟩) (m.keep (fun b a G=>?_) fun b a=>⟨a.1,by omega,fun e=>?_⟩)
   ·have aB:=a.1
    have aC:=a.2
    rcases N b e with w | w
    ·have:=(H w).2;omega
    ·omega
   ·rw [Zt D (by omega) fun e=>a.2.2 e]
    exact Zu t G
   ·rcases N b e with w | w
    ·exact a.2.2 w
    ·omega
  ·have:i=l.length:=by omega
   subst this
   rw [Awd (Aqo _)] at m
   refine ZdK (S:=fun j=>sz A<=j/\j<sz J) own.row (fun _ b a=>own.lt a) (m.keep (fun _ _ _=>rfl) fun b a=>⟨a.1,a.2.1⟩) (fun j F=>F.2) (by omega) fun z aD O Y=>?_
   refine ZbF (x:=z.2.2.1) (y:=z.2.2.2.1) (Zn R (E.trans O)) rfl fun h5 u5 z5=>hk _ h5 ((h.trans O).updS u5 fun j F=>by omega) ?_
   have:=h.size
   have:=E.size
   exact Y.keep (fun b a G=>Zt u5 G fun e=>by have:=a.1;omega) fun b a=>⟨by have:=a.1;omega,by have:=a.2;omega⟩
end Go.Proofs.YtpjbjdheeemdiaaGreatDoor
