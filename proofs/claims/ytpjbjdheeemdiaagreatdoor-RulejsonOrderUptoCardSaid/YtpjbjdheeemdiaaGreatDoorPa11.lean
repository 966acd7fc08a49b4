/- JSON values in memory; a value is put behind a list, a name behind names. -/
import Derived.Test.YtpjbjdheeemdiaaGreatDoorRows
import Derived.Deep.Slices
import Derived.ChangeSlices
import Derived.KernelRfl
import Derived.Lib.LaidU8
import Derived.Stop.Joined
import Derived.MakeChecks
import Derived.ProofKit
import Derived.OpenShut
import Derived.Lay
import Derived.Test.YtpjbjdheeemdiaaGreatDoorPa10
set_option linter.unusedVariables false
set_option linter.unusedSimpArgs false
namespace Go.Proofs.YtpjbjdheeemdiaaGreatDoor
open Go Go.Fw Go.Js
abbrev VT5:=Int × ByteArray × Sl × Sl × Unit
abbrev sV (t:BL):Value:= .string (Zk t)
def Xl (z:VT5):List Value:=[.int .u8 z.1,.string z.2.1,slV z.2.2.1,slV z.2.2.2.1]
def inS (S:Nat->Prop) (x:Sl):Prop:=x.len≠0->∀ b,x.blk=some b->S b
def Xm (h:Zc) (S:Nat->Prop):JL->List Value->Prop
  | .nil,vs=>vs=[]
  | .cons k t ns sub rest,vs=>∃ (x y:Sl) (cx vs':List Value),vs=Xl ((k:Int),Zk t,x,y,())++vs'/\Row h y 1 (ns.map sV)/\inS S y/\Row h x 4 cx/\inS S x/\Xm h S sub cx/\Xm h S rest vs'
def Zam (h:Zc) (S:Nat->Prop) (z:VT5) (v:JV):Prop :=
  z.1=v.k/\z.2.1=Zk v.t/\Row h z.2.2.2.1 1 (v.ns.map sV)/\inS S z.2.2.2.1/\∃ cx,Row h z.2.2.1 4 cx/\inS S z.2.2.1/\Xm h S v.sub cx
theorem inS.mono {S S':Nat->Prop} {x:Sl} (h:inS S x) (hs:∀ b,S b->S' b):inS S' x:=fun hl b hb=>hs b (h hl b hb)
theorem Yi {h h':Zc} {S:Nat->Prop} {x:Sl} {n:Nat} {vs:List Value} (hr:Row h x n vs) (hi:inS S x) (he:∀ b,S b->b<sz h->obj h' b=obj h b):Row h' x n vs:=by
  refine hr.congr fun b o hp hne hb=>he b (hi ?_ b (by simp [Sl.blk,hp])) hb
  intro h0
  exact hne (hr.nil_of h0)
theorem Xm.keep {h h':Zc} {S S':Nat->Prop} (he:∀ b,S b->b<sz h->obj h' b=obj h b) (hs:∀ b,S b->S' b):∀ {l:JL} {vs:List Value},Xm h S l vs->Xm h' S' l vs
  | .nil,_,h=>h
  | .cons k t ns sub rest,vs,h=>by
    obtain ⟨x,y,cx,vs',e,a,b,c,d,f,g⟩:=h
    exact ⟨x,y,cx,vs',e,Yi a b he,b.mono hs,Yi c d he,d.mono hs,Xm.keep he hs f,Xm.keep he hs g⟩
theorem Zam.keep {h h':Zc} {S S':Nat->Prop} {z:VT5} {v:JV} (hv:Zam h S z v) (he:∀ b,S b->b<sz h->obj h' b=obj h b) (hs:∀ b,S b->S' b):Zam h' S' z v:=by
  obtain ⟨a,b,c,d,cx,e,f,g⟩:=hv
  exact ⟨a,b,Yi c d he,d.mono hs,cx,Yi e f he,f.mono hs,g.keep he hs⟩
theorem Xm.len {h:Zc} {S:Nat->Prop}:∀ {l:JL} {vs:List Value},Xm h S l vs->vs.length=l.len*4
  | .nil,_,h=>by rw [show _=[] from h];rfl
  | .cons k t ns sub rest,vs,h=>by
    obtain ⟨x,y,cx,vs',e,a,b,c,d,f,g⟩:=h
    rw [e,Awe,Xm.len g]
    simp [Xl,JL.len];omega
theorem Xm.snoc {h:Zc} {S:Nat->Prop} {z:VT5} {v:JV} (hv:Zam h S z v):∀ {l:JL} {vs:List Value},Xm h S l vs->Xm h S (l.snoc v) (vs++Xl z)
  | .nil,_,h=>by
    rw [show _=[] from h]
    obtain ⟨a,b,c,d,cx,e,f,g⟩:=hv
    refine ⟨z.2.2.1,z.2.2.2.1,cx,[],?_,c,d,e,f,g,rfl⟩
    simp [Xl,a,b]
  | .cons k t ns sub rest,vs,h=>by
    obtain ⟨x,y,cx,vs',e,a,b,c,d,f,g⟩:=h
    exact ⟨x,y,cx,vs'++Xl z,by rw [e,Ayz],a,b,c,d,f,Xm.snoc hv g⟩
def PS (h:Zc) (b k:Nat) (ns:List BL) (sub:JL):Prop:=∃ (x y:Sl) (cx:List Value),
  obj h b=some (.cells (Xl ((k:Int),Zk [],x,y,())).toArray 33 (0,0))/\Own h (b+1) x 4 cx/\Own h (b+1) y 1 (ns.map sV) /\
    Xm h (fun j=>b+1<=j/\j<sz h/\x.blk≠some j/\y.blk≠some j) sub cx/\∀ j,x.blk=some j->y.blk≠some j
theorem PS.lt {h:Zc} {b k:Nat} {ns:List BL} {sub:JL} (p:PS h b k ns sub):b<sz h:=by
  obtain ⟨x,y,cx,c,_⟩:=p
  exact ZaJ c
theorem PS.upd {S:Nat->Prop} {h h':Zc} {b k:Nat} {ns:List BL} {sub:JL} (p:PS h b k ns sub) (u:Upd S h h') (hs:∀ j,S j->j<b):PS h' b k ns sub:=by
  obtain ⟨x,y,cx,c,ox,oy,lr,ne⟩:=p
  have he:∀ j,b<=j->j<sz h->obj h' j=obj h j:=fun j h1 h2=>Zo u h2 fun h9=>by have:=hs j h9;omega
  have hsz:sz h<=sz h':=u.size
  refine ⟨x,y,cx,(he b (Aqo _) (ZaJ c)).trans c,ox.congr fun j _ hl hb=>he j (by omega) hl,oy.congr fun j _ hl hb=>he j (by omega) hl,lr.keep (fun j hj hl=>he j (by omega) hl) (fun j hj=>⟨hj.1,by omega,hj.2.2⟩),ne⟩
theorem Zlv:∀ (vs:List Value) (o:Nat) (c:List Value),o+vs.length<=c.length->Za8 o vs c=c.take o++vs++c.drop (o+vs.length)
  | [],o,c,h=>by simp [Za8]
  | v::vs,o,c,h=>by
    simp only [Aqj] at h
    unfold Za8
    rw [Zlv vs (o+1) (c.set o v) (by simp;omega)]
    rw [Ayu,Ayv (by omega),Aqm (Aqo _),Aqn (by omega)]
    simp
    congr 1;omega
theorem Zcf (z:VT5):(Xl z).all Yc=true:=by simp [Xl,Yc,slV]
theorem Zyk {h:Zc} {b k:Nat} {ns:List BL} {sub:JL} {x y:Sl} {cx:List Value} (c:obj h b=some (.cells (Xl ((k:Int),Zk [],x,y,())).toArray 33 (0,0)))
    (ox:Own h (b+1) x 4 cx) (oy:Own h (b+1) y 1 (ns.map sV)) (lr:Xm h (fun j=>b+1<=j/\j<sz h/\x.blk≠some j/\y.blk≠some j) sub cx) (ne:∀ j,x.blk=some j->y.blk≠some j)
    {z:VT5} {v:JV} {Se:Nat->Prop} (hv:Zam h Se z v) (hSe:∀ j,Se j->b+1<=j/\j<sz h/\x.blk≠some j/\y.blk≠some j) (hs:sub.len<=100000) {K:HP}
    (hk:∀ h',PS h' b k ns (sub.snoc v)->Upd (fun j=>b<=j) h h'->K h') :
    Fw.app 33 4 72 zV x 1 zV h fun t48 h49=>ZcM t48.ptr t48.len (x.len:Int) 4 fun b51 o52=>Ze (At b) fun b53 o54=>Zqt (
      sts h49 b51 o52 (Xl z) fun h55=>st h55 b53 (o54+2) (.slice t48.ptr t48.len t48.cap) K) (
      st h49 b53 (o54+2) (.slice t48.ptr t48.len t48.cap) fun h58=>sts h58 b51 o52 (Xl z) K):=by
  have hb:=ZaJ c
  have hlx:x.len=sub.len:=by have:=ox.len;have:=lr.len;omega
  refine ox.app rfl (by decide) rfl (by omega) (by omega) (by have:sz h=h.size:=rfl;omega) fun x' h1 o1 l1 u1 bl1=>?_
  have hsz:sz h<=sz h1:=u1.size
  rcases o1.at_ with ⟨hp,h0⟩ | ⟨g,cs,e,hp,hbg,hg,hcs,hvs⟩
  ·exfalso;have:=o1.cap;omega
  have hgblk:x'.blk=some g:=by simp [Sl.blk,hp]
  have hg':obj h1 g=some (.cells cs.toList.toArray e (0,0)):=by
    have:cs.toList.toArray=cs:=by simp
    rw [this];exact hg
  have hcap:=o1.cap
  have hcl:cs.toList.length=x'.cap*4:=by rw [Awa];exact hcs
  have hgx:x.blk=some g\/sz h<=g:=by
    rcases bl1 with e1 | e1
    ·left;rw [<- e1,hgblk]
    ·right;rw [hgblk] at e1;cases e1;exact Aqo _
  have hgy:y.blk≠some g:=by
    rcases hgx with e1 | e1
    ·exact ne g e1
    ·intro e2
     have:=(oy.lt e2).2
     have:sz h=h.size:=rfl
     omega
  have c1:obj h1 b=some (.cells (Xl ((k:Int),Zk [],x,y,())).toArray 33 (0,0)):=ZB c u1 fun e1=>by have:=(ox.lt e1).1;omega
  have hgb:g≠b:=by omega
  have hle:x.len*4+(Xl z).length<=cs.toList.length:=by rw [hcl];simp [Xl];omega
  have fin:∀ h',obj h' g=some (.cells (Za8 (0+x.len*4) (Xl z) cs.toList).toArray e (0,0))->obj h' b=some (.cells (Xl ((k:Int),Zk [],x',y,())).toArray 33 (0,0)) ->
      (∀ j,j≠g->j≠b->obj h' j=obj h1 j)->sz h'=sz h1->K h':=by
    intro h' eg eb ej es
    have hold:∀ j,j<sz h->j≠b->x.blk≠some j->obj h' j=obj h j:=fun j hj hjb hjx=>by
      rw [ej j (by rintro rfl;rcases hgx with e1 | e1;exact hjx e1;omega) hjb]
      exact Zo u1 hj hjx
    have vs9:cx++Xl z=(Za8 (0+x.len*4) (Xl z) cs.toList).take (x'.len*4):=by
      rw [Awb,Zlv _ _ _ hle,Awc (by simp [Xl];omega),Awd (by simp [Xl];omega)]
      congr 1
      have:=congrArg (fun q=>q.take (x.len*4)) hvs
      simp only [List.take_take,show min (x.len*4) (x'.len*4)=x.len*4 by omega] at this
      rw [<- this,Awc (by have:=ox.len;omega),Awd (by have:=ox.len;omega)]
    refine hk h' ⟨x',y,cx++Xl z,eb,⟨?_,hcap,o1.big,.inr ⟨g,_,e,hp,hbg,eg,?_,?_⟩⟩,?_,?_,?_⟩ ⟨by have:sz h'=h'.size:=rfl;have:sz h=h.size:=rfl;omega,fun j hj hbj=>hold j hj (by omega) fun e1=>by have:=(ox.lt e1).1;omega⟩
    ·have:=ox.len;simp [Xl];omega
    ·simp [ZhE,hcs]
    ·simpa using vs9
    ·exact oy.congr fun j hj hl hbj=>hold j hl (by omega) fun e1=>ne j e1 hj
    ·have h1:Xm h' (fun j=>b+1<=j/\j<sz h'/\x'.blk≠some j/\y.blk≠some j) sub cx:=lr.keep (fun j hj hl=>hold j hl (by omega) hj.2.2.1) fun j hj=>⟨hj.1,by omega,by
       rw [hgblk];rintro e1;cases e1
       rcases hgx with e1 | e1
       ·exact hj.2.2.1 e1
       ·omega,hj.2.2.2⟩
     refine h1.snoc (hv.keep (fun j hj hl=>?_) fun j hj=>?_)
     ·have:=hSe j hj
      exact hold j hl (by omega) this.2.2.1
     ·have:=hSe j hj
      refine ⟨this.1,by omega,?_,this.2.2.2⟩
      rw [hgblk];rintro e1;cases e1
      rcases hgx with e1 | e1
      ·exact this.2.2.1 e1
      ·omega
    ·intro j hj
     rw [hgblk] at hj;cases hj
     exact hgy
  rw [hp]
  refine ZlC (n:=x.len) rfl (by omega) ?_
  refine Zu ⟨?_,?_⟩
  ·rw [Zpq (by rw [hg',Zfz];simp [Xl];omega) (Zcf z)]
   have c2:obj (h1.puts g (0+x.len*4) (Xl z)) b=some (.cells (Xl ((k:Int),Zk [],x,y,())).toArray 33 (0,0)):=by rw [ZdE,if_neg (Ne.symm hgb)];exact c1
   refine Zjw c2 (by simp [Xl]) Zsp fun h9 c9 u9 z9=>fin h9 ?_ (by rw [c9];simp [Xl,slV,hp]) (fun j hj1 hj2=>?_) (by rw [z9,Ziv])
   ·rw [ZB (S:=(· = b)) (x:= .cells (Za8 (0+x.len*4) (Xl z) cs.toList).toArray e (0,0)) (by rw [ZdE,if_pos rfl,hg',Zbz]) u9 hgb]
   ·by_cases hl:j<sz h1
    ·rw [Zo u9 (by rw [Ziv];exact hl) hj2,ZdE,if_neg hj1]
    ·have e1:obj h1 j=none:=Aqe (by have:sz h1=h1.size:=rfl;omega)
     have e2:obj h9 j=none:=Aqe (by have:sz h9=h9.size:=rfl;rw [<- this,z9,Ziv];omega)
     rw [e1,e2]
  ·refine Zjw c1 (by simp [Xl]) Zsp fun h8 c8 u8 z8=>?_
   have hg8:obj h8 g=some (.cells cs.toList.toArray e (0,0)):=ZB hg' u8 hgb
   rw [Zpq (by rw [hg8,Zfz];simp [Xl];omega) (Zcf z)]
   refine fin _ (by rw [ZdE,if_pos rfl,hg8,Zbz]) (by rw [ZdE,if_neg (Ne.symm hgb),c8];simp [Xl,slV,hp]) (fun j hj1 hj2=>?_) (by rw [Ziv,z8])
   rw [ZdE,if_neg hj1]
   by_cases hl:j<sz h1
   ·exact Zo u8 hl hj2
   ·have e1:obj h1 j=none:=Aqe (by have:sz h1=h1.size:=rfl;omega)
    have e2:obj h8 j=none:=Aqe (by have:sz h8=h8.size:=rfl;rw [<- this,z8];omega)
    rw [e1,e2]
theorem ZAf {h:Zc} {b k:Nat} {ns:List BL} {sub:JL} {x y:Sl} {cx:List Value} (c:obj h b=some (.cells (Xl ((k:Int),Zk [],x,y,())).toArray 33 (0,0)))
    (ox:Own h (b+1) x 4 cx) (oy:Own h (b+1) y 1 (ns.map sV)) (lr:Xm h (fun j=>b+1<=j/\j<sz h/\x.blk≠some j/\y.blk≠some j) sub cx) (ne:∀ j,x.blk=some j->y.blk≠some j)
    {t:BL} (hs:ns.length<=100000) {K:HP} (hk:∀ h',PS h' b k (ns++[t]) sub->Upd (fun j=>b<=j) h h'->K h') :
    Fw.app 9 1 16 [.string (ByteArray.mk #[])] y 1 [sV t] h fun t18 h19=>Ze (At b) fun b20 o21=>st h19 b20 (o21+3) (.slice t18.ptr t18.len t18.cap) K:=by
  have hb:=ZaJ c
  have hly:y.len=ns.length:=by have:=oy.len;simp at this;omega
  refine oy.app rfl (by simp [Yc]) rfl (by omega) (by omega) (by have:sz h=h.size:=rfl;omega) fun y' h1 o1 l1 u1 bl1=>?_
  have hsz:sz h<=sz h1:=u1.size
  have c1:obj h1 b=some (.cells (Xl ((k:Int),Zk [],x,y,())).toArray 33 (0,0)):=ZB c u1 fun e1=>by have:=(oy.lt e1).1;omega
  refine Zu (Zjw c1 (by simp [Xl]) Zsp fun h9 c9 u9 z9=>?_)
  have hold:∀ j,j<sz h->j≠b->y.blk≠some j->obj h9 j=obj h j:=fun j hj hjb hjy=>(Zo u9 (by omega) hjb).trans (Zo u1 hj hjy)
  have hnew:∀ j,y'.blk=some j->y.blk=some j\/sz h<=j:=fun j hj=>by
    rcases bl1 with e1 | e1
    ·left;rw [<- e1,hj]
    ·right;rw [hj] at e1;cases e1;exact Aqo _
  refine hk h9 ⟨x,y',cx,c9,?_,?_,?_,?_⟩ ⟨by have:sz h9=h9.size:=rfl;have:sz h=h.size:=rfl;omega,fun j hj hbj=>hold j hj (by omega) fun e1=>by have:=(oy.lt e1).1;omega⟩
  ·exact ox.congr fun j hj hl hbj=>hold j hl (by omega) (ne j hj)
  ·have:(ns++[t]).map sV=ns.map sV++[sV t]:=by simp
   rw [this]
   exact o1.congr fun j _ hl hbj=>Zo u9 hl (by omega)
  ·refine lr.keep (fun j hj hl=>hold j hl (by omega) hj.2.2.2) fun j hj=>⟨hj.1,by omega,hj.2.2.1,fun e1=>?_⟩
   rcases hnew j e1 with e2 | e2
   ·exact hj.2.2.2 e2
   ·omega
  ·intro j hj e1
   rcases hnew j e1 with e2 | e2
   ·exact ne j hj e2
   ·have:=(ox.lt hj).2
    have:sz h=h.size:=rfl
    omega
def ZoP (f:ZnA) (pv:BL->Out JV) (deep:Int):Prop:=∀ (h:Zc) (R:Nat) (s:ByteArray) (l:BL) (K:VT5->HP) (P:Value->HP),Rd h R s l->ZaN h->9<=R ->
  (∀ v r z h',pv l = .ok v r->Rd h' R s r->Upd (· = R) h h'->Zam h' (fun j=>sz h<=j/\j<sz h') z v->K z h')->OnE h R s (· = R) (pv l) P->f (At R) deep K P h
theorem Zj9 {S:Nat->Prop} {h h':Zc} (u:Upd S h h'):sz h<=sz h':=u.size
theorem Zdb {h:Zc} {b o:Nat} {v:Value} {K:Prop} (hc:ZbA o (obj h b)=some v) (hk:K):Y6 (Z9 h [(b,o,v)]) K:=by
  refine ⟨⟨?_,trivial⟩,hk⟩
  rw [X6];exact hc
theorem Zha {h:Zc} {b n size:Nat} {l:List Value} {t:TypeId} {f:Nat × Nat} {K:List Value->Prop} (c:obj h b=some (.cells l.toArray t f)) (hl:l.length=n*size) (hk:K l):rdS ⟨some ⟨b,0,none⟩,n,n⟩ size h K :=
  .inr ⟨b,0,l,rfl,hl,ZdR c (fun i v hi=>by simpa using hi),hk⟩
theorem ZwR {f20:ZnA} {pv:BL->Out JV} {deep:Int} (hf:ZoP f20 pv deep) {ob:Bool} {k:Nat} (hk:k=if ob then 7 else 6) {h:Zc} {R b:Nat} {s:ByteArray} {l:BL} {ns:List BL} {sub:JL} (hr:Rd h R s l) (ht:ZaN h) (hR:9<=R) (hRb:R<b)
    (ps:PS h b k ns sub) (hn:ns.length<=100000) (hs:sub.len<=100000) {K:HP} {P:Value->HP}
    (hok:∀ p r h',ZcW pv ob ns sub l = .ok p r->Rd h' R s r->PS h' b k p.1 p.2->Upd (UB R b) h h'->K h') (herr:OnE h R s (UB R b) (ZcW pv ob ns sub l) P):ZaR f20 (At R) (At b) deep K P h:=by
  unfold ZaR ZdW
  have uR:∀ {a c:Zc},Upd (· = R) a c->Upd (UB R b) a c:=fun u=>u.mono fun k _ hk=> .inl hk
  have uB:∀ {a c:Zc},Upd (fun k=>b<=k) a c->Upd (UB R b) a c:=fun u=>u.mono fun k _ hk=> .inr hk
  have tU:∀ {a c:Zc},ZaN a->Upd (UB R b) a c->ZaN c:=fun t u=>t.upd u fun k hk=>by rcases hk with rfl | hk<;>omega
  have psR:∀ {a c:Zc} {ns:List BL} {sub:JL},PS a b k ns sub->Upd (· = R) a c->PS c b k ns sub:=fun p u=>p.upd u fun j hj=>by subst hj;exact hRb
  refine Zee hr fun h1 r1 u1 z1=>?_
  have ps1:=psR ps u1
  have t1:=tU ht (uR u1)
  refine Z0 (fun _ h'=>∃ l' ns',Rd h' R s l'/\PS h' b k ns' sub/\ZaN h'/\Upd (UB R b) h h'/\ZcW pv ob ns sub l=(pv l').bind fun v l4=> .ok (ns',sub.snoc v) (Za3 l4)) ?_ ?_
  ·rintro ⟨⟩ h2 ⟨l2,ns2,r2,p2,t2,u2,q2⟩
   obtain ⟨x,y,cx,c,ox,oy,lr,ne⟩:=id p2
   have hb2:=p2.lt
   have er:∀ {a:Zc} (ua:Upd (UB R b) h a),OnE a R s (· = R) (pv l2) P:=fun ua e r h' he u'=>herr e r h' (by rw [q2,he];rfl) (ua.trans (uR u'))
   have put:∀ {v r z} {h3 h4 h5:Zc},pv l2 = .ok v r->Ext h2 h3->Upd (· = R) h3 h4->Rd h4 R s r->Zam h4 (fun j=>sz h3<=j/\j<sz h4) z v->Ext h4 h5 ->
       Fw.app 33 4 72 zV x 1 zV h5 fun t48 h49=>ZcM t48.ptr t48.len (x.len:Int) 4 fun b51 o52=>Ze (At b) fun b53 o54=>Zqt (
         sts h49 b51 o52 (Xl z) fun h55=>st h55 b53 (o54+2) (.slice t48.ptr t48.len t48.cap) fun h56=>Z5 (At R) (fun h57=>K h57) h56) (
         st h49 b53 (o54+2) (.slice t48.ptr t48.len t48.cap) fun h58=>sts h58 b51 o52 (Xl z) fun h59=>Z5 (At R) (fun h60=>K h60) h59):=by
     intro v r z h3 h4 h5 hq e3 u4 r4 v4 e5
     have s3:sz h2<=sz h3:=e3.size
     have s4:sz h3<=sz h4:=u4.size
     have s5:sz h4<=sz h5:=e5.size
     have old:∀ j,b<=j->j<sz h2->obj h5 j=obj h2 j:=fun j hj hl=>by
       rw [Zq e5 (by omega),Zo u4 (by omega) (by omega),Zq e3 hl]
     have lx:∀ j,x.blk=some j->j<sz h2:=fun j e=>(ox.lt e).2
     have ly:∀ j,y.blk=some j->j<sz h2:=fun j e=>(oy.lt e).2
     refine Zyk ((old b (Aqo _) hb2).trans c) (ox.congr fun j _ hl hbj=>old j (by omega) hl) (oy.congr fun j _ hl hbj=>old j (by omega) hl)
       (lr.keep (fun j hj hl=>old j (by omega) hl) fun j hj=>⟨hj.1,by omega,hj.2.2⟩) ne (Se:=fun j=>sz h3<=j/\j<sz h4) (v4.keep (fun j hj hl=>Zq e5 hl) fun j hj=>hj)
       (fun j hj=>⟨by omega,by omega,fun e=>by have:=lx j e;omega,fun e=>by have:=ly j e;omega⟩) hs fun h6 p6 u6=>?_
     have r6:Rd h6 R s r:=(r4.ext e5).upd u6 (by omega)
     refine Zee r6 fun h7 r7 u7 z7=>hok _ _ h7 (by rw [q2,hq];rfl) r7 (psR p6 u7) ?_
     exact (((u2.trans (e3.upd _)).trans (uR u4)).trans (e5.upd _)).trans ((uB u6).trans (uR u7))
   have bR:¬ b=R:=by omega
   refine Zu (rL (s:=x) (Zb c rfl) ⟨?_,?_⟩)
   ·refine hf h2 R s l2 _ P r2 t2 hR (fun v r z h4 hv r4 u4 v4=>?_) (er u2)
    have c4:=ZB c u4 bR
    refine Zdb (Zb c4 rfl) (YX fun h5 c5 e5 z5=>Zdb (Zb (Zl c4 e5) rfl) ?_)
    refine Zha c5 rfl ?_
    exact put hv (Ext.refl _) u4 r4 v4 e5
   ·refine YX fun h3 c3 e3 z3=>Zdb (Zb (Zl c e3) rfl) ?_
    refine hf h3 R s l2 _ P (r2.ext e3) (t2.ext e3) hR (fun v r z h4 hv r4 u4 v4=>?_) (er (u2.trans (e3.upd _)))
    have c4:=ZB (Zl c e3) u4 bR
    have c34:=ZB c3 u4 (show ¬ h2.size=R by have:sz h2=h2.size:=rfl;omega)
    refine Zdb (Zb c4 rfl) ?_
    refine Zha c34 rfl ?_
    exact put hv e3 u4 r4 v4 (Ext.refl _)
  ·
   obtain ⟨x,y,cx,c,ox,oy,lr,ne⟩:=id ps1
   have hb1:=ps1.lt
   refine Zu (rI (Zb c rfl) ?_)
   cases ob with
   | false =>
     have hk6:k=6:=hk
     refine Zm (by rw [hk6];rfl) ⟨Za3 l,ns,r1,ps1,t1,uR u1,rfl⟩
   | true =>
     have hk7:k=7:=hk
     have hq:ZcW pv true ns sub l=(Zji l).bind fun nm l3=>(pv l3).bind fun v l4=> .ok (ns++[nm],sub.snoc v) (Za3 l4):=rfl
     refine Zn (by rw [hk7];rfl) ?_
     refine Z0 (fun _ h'=>h'=h1/\∃ l1,Za3 l=34::l1) ?_ ?_
     ·rintro ⟨⟩ h2 ⟨rfl,l1,e1⟩
      rw [e1] at r1
      have hnm:Zji l=(ZnW l1).bind fun nm l2=>match Za3 l2 with
          | d::l3=>if d=58 then .ok nm l3 else .err 20 (d::l3)
          | []=> .err 24 []:=by unfold Zji;rw [e1];rfl
      have bR:¬ b=R:=by omega
      refine Zu (rL (s:=y) (Zb c rfl) ?_)
      refine Zpo r1 t1 hR (fun t r h3 htx r3 u3=>?_) fun e r h3 he u3=>herr e r h3 (by rw [hq,hnm,he];rfl) (uR (u1.trans u3))
      have c3:=ZB c u3 bR
      refine Zdb (Zb c3 rfl) (YX fun h4 c4 e4 z4=>Zdb (Zb (Zl c3 e4) rfl) ?_)
      refine Zha c4 rfl ?_
      have ps3:=psR ps1 u3
      have old:∀ j,b<=j->j<sz h2->obj h4 j=obj h2 j:=fun j hj hl=>by
        have:=Zj9 u3
        rw [Zq e4 (by omega),Zo u3 hl (by omega)]
      have s3:=Zj9 u3
      have s4:sz h3<=sz h4:=e4.size
      refine ZAf ((old b (Aqo _) hb1).trans c) (ox.congr fun j _ hl hbj=>old j (by omega) hl) (oy.congr fun j _ hl hbj=>old j (by omega) hl)
        (lr.keep (fun j hj hl=>old j (by omega) hl) fun j hj=>⟨hj.1,by omega,hj.2.2⟩) ne hn fun h5 p5 u5=>?_
      have r5:Rd h5 R s r:=(r3.ext e4).upd u5 (by omega)
      refine Zee r5 fun h6 r6 u6 z6=>?_
      have p6:=psR p5 u6
      have u16:Upd (UB R b) h h6:=(((uR u1).trans (uR u3)).trans (e4.upd _)).trans ((uB u5).trans (uR u6))
      refine Z0 (fun _ h'=>h'=h6/\∃ l7,Za3 r=58::l7) ?_ ?_
      ·rintro ⟨⟩ h7 ⟨rfl,l7,e7⟩
       rw [e7] at r6
       refine Zdq r6 fun h8 r8 u8 z8=>⟨l7,ns++[t],r8,psR p6 u8,tU ht (u16.trans (uR u8)),u16.trans (uR u8),?_⟩
       rw [hq,hnm,htx]
       simp only [Out.bind_ok,e7,↓reduceIte]
      ·refine Zaa r6 (Zjk 58 (fun hne=>ZbK (α:=BL) r6 rfl fun e' q he hq'=>herr e' q h6 ?_ u16) fun l7 e7=>⟨rfl,l7,e7⟩)
       rw [hq,hnm,htx]
       simp only [Out.bind_ok]
       cases hsk:Za3 r with
       | nil=>rw [hsk] at he;cases he;rfl
       | cons d l7 =>
         rw [hsk] at he hne
         simp only
         rw [if_neg (hne d l7 rfl)]
         cases he;rfl
     ·refine Zaa r1 (Zjk 34 (fun hne=>ZbK (α:=BL) r1 rfl fun e' q he hq'=>herr e' q h1 ?_ (uR u1)) fun l1 e1=>⟨rfl,l1,e1⟩)
      rw [hq]
      unfold Zji
      cases hsk:Za3 l with
      | nil=>rw [hsk] at he;cases he;rfl
      | cons d l1 =>
        rw [hsk] at he hne
        simp only
        rw [if_neg (hne d l1 rfl)]
        cases he;rfl
theorem ZCW {pv:BL->Out JV} (hv:Js.Good false pv) (hs:St 1 pv) (ob:Bool) (c:UInt8) (l:BL):Zra pv ob (c::l)=(L pv ob [] .nil (Za3 l)).bind fun p r=> .ok ⟨if ob then 7 else 6,[],p.1,p.2⟩ r:=Zoi hv hs ob c l
theorem ZpT {l:JL}:l.isNil=true↔l.len=0:=by cases l<;>simp [JL.isNil,JL.len]
theorem PS.xlen {h:Zc} {b k:Nat} {ns:List BL} {sub:JL} (p:PS h b k ns sub) {K:Sl->Prop} (hk:∀ x:Sl,x.len=sub.len->K x):ldL h b (0+2) K:=by
  obtain ⟨x,y,cx,c,ox,oy,lr,ne⟩:=p
  exact rL (s:=x) (Zb c rfl) (hk x (by have:=ox.len;have:=lr.len;omega))
theorem ZtO {f20:ZnA} {k e:Int} {h:Zc} {R:Nat} {s:ByteArray} {l:BL} (hr:Rd h R s l) {K:VT5->HP} {P:Value->HP} (herr:OnE h R s (· = R) (Za1 23 l:Out JV) P):Xc f20 (At R) k e 64 K P h:=by
  unfold Xc ZbJ
  refine YX fun h1 c1 e1 z1=>Z0 (fun _ _=>False) (fun _ _ h=>h.elim) (Zn (by decide) ?_)
  exact ZbK (α:=JV) (hr.ext e1) rfl fun e' r he hr'=>herr e' r h1 he (e1.upd _)
theorem ZtN {f20:ZnA} {pv:BL->Out JV} (hg:Js.Good false pv) (hst:St 1 pv) (h0:pv [] = .err 24 []) {deep:Nat} (hd:deep<64) (hf:ZoP f20 pv ((deep+1:Nat):Int)) {ob:Bool} {h:Zc} {R:Nat} {s:ByteArray} {c0:UInt8} {l:BL} (hr:Rd h R s (c0::l)) (ht:ZaN h) (hR:9<=R)
    {k e:Int} (hk:k=if ob then 7 else 6) (he:e=(Zup ob).toNat) {K:VT5->HP} {P:Value->HP}
    (hok:∀ v r z h',Zra pv ob (c0::l) = .ok v r->Rd h' R s r->Upd (· = R) h h'->Zam h' (fun j=>sz h<=j/\j<sz h') z v->K z h') (herr:OnE h R s (· = R) (Zra pv ob (c0::l)) P):Xc f20 (At R) k e (deep:Int) K P h:=by
  unfold Xc ZbJ
  have hll:=hr.len
  have hRs:=hr.lt
  have hszr:sz h=h.size:=rfl
  rw [ZCW hg hst] at hok herr
  refine YX fun h1 c1 e1 z1=>?_
  refine Z0 (fun _ h'=>h'=h1) ?_ (Zm (by simp;omega) rfl)
  rintro ⟨⟩ h2 rfl
  refine Zdq (hr.ext e1) fun h3 r3 u3 z3=>YX fun h4 c4 e4 z4=>?_
  have hb3:sz h3=h3.size:=rfl
  have hb:h3.size=h.size+1:=by rw [<- hb3,z3];exact z1
  have hRb:R<h3.size:=by omega
  rw [Zpq (by rw [show obj h4 h3.size=_ from c4,Zfz];rfl) (by simp [Yc])]
  have hps:PS (h4.puts h3.size 0 [.int .u8 k,.string (ByteArray.mk #[]),.slice none 0 0,.slice none 0 0]) h3.size (if ob then 7 else 6) [] .nil:=by
    refine ⟨⟨none,0,0⟩,⟨none,0,0⟩,[],?_,Own.nil _ _ _,Own.nil _ _ _,rfl,fun j hj=>by cases hj⟩
    rw [ZdE,if_pos rfl,show obj h4 h3.size=_ from c4,Zbz,hk]
    cases ob<;>rfl
  have u5:=Upd.puts h4 h3.size 0 [.int .u8 k,.string (ByteArray.mk #[]),.slice none 0 0,.slice none 0 0]
  generalize h4.puts h3.size 0 [.int .u8 k,.string (ByteArray.mk #[]),.slice none 0 0,.slice none 0 0]=h5 at hps u5 ⊢
  have r5:Rd h5 R s l:=(r3.ext e4).upd u5 (by omega)
  have low:∀ {a:Zc},Upd (UB R h3.size) h3 a->Upd (· = R) h a:=fun {a} u=>UT (UN e1 u3) u fun j hj=>by
    rcases hj with rfl | hj
    ·exact .inl rfl
    ·right;omega
  have u35:Upd (UB R h3.size) h3 h5:=(e4.upd _).trans (u5.mono fun j _ hj=>by subst hj;exact .inr (Aqo _))
  have t5:ZaN h5:=ht.upd (low u35) fun j hj=>by subst hj;exact hR
  refine Zee r5 fun h6 r6 u6 z6=>?_
  have p6:=hps.upd u6 fun j hj=>by subst hj;exact hRb
  have u36:Upd (UB R h3.size) h3 h6:=u35.trans (u6.mono fun j _ hj=> .inl hj)
  have t6:ZaN h6:=t5.upd u6 fun j hj=>by subst hj;exact hR
  have c1':∀ {a:Zc},Upd (UB R h3.size) h3 a->obj a h.size=some (.cells zV.toArray 33 (0,0)):=fun {a} u=>by
    have c3:obj h3 h.size=some (.cells zV.toArray 33 (0,0)):=ZB c1 u3 (by omega)
    exact ZB c3 u (by omega)
  have hsk:=ZfK l
  refine Zv (fun _ h'=>∃ (l':BL) (ns:List BL) (sub:JL),Rd h' R s l'/\PS h' h3.size (if ob then 7 else 6) ns sub/\ZaN h'/\L pv ob ns sub l'=L pv ob [] .nil (Za3 l)/\sub.len+l'.length<=65536/\ns.length<=sub.len/\Upd (UB R h3.size) h3 h') (fun _ h'=>left h' R)
    ⟨Za3 l,[],.nil,r6,p6,t6,rfl,by simp [JL.len] at hll ⊢;omega,Aqo _,u36⟩ ?_
  rintro ⟨⟩ h7 ⟨l7,ns,sub,r7,p7,t7,q7,n7,m7,u7⟩
  have tU:∀ {c:Zc},Upd (UB R h3.size) h7 c->ZaN c:=fun u=>t7.upd u fun j hj=>by rcases hj with rfl | hj<;>omega
  have er:∀ {e:Nat} {r:BL} {h':Zc},L pv ob ns sub l7 = .err e r->Upd (UB R h3.size) h7 h'->P (ZfH e (s.size - r.length)) h':=fun he u=>herr _ _ _ (by rw [<- q7,he];rfl) (low (u7.trans u))
  have hLe:=ZFN hg hst h0 ob ns sub
  refine Z0 (fun _ h'=>h'=h7/\Zhe (Zup ob) l7=false) ?_ ?_
  ·rintro ⟨⟩ h8 ⟨rfl,hne⟩
   refine Z0 (fun _ h'=>∃ l9,Rd h' R s l9/\PS h' h3.size (if ob then 7 else 6) ns sub/\ZaN h'/\Upd (UB R h3.size) h8 h'/\l9.length<=l7.length/\L pv ob ns sub l7=(ZcW pv ob ns sub l9).bind fun p=>L pv ob p.1 p.2) ?_ ?_
   ·rintro ⟨⟩ h9 ⟨l9,r9,p9,t9,u9,hl9,q9⟩
    rw [Yt (by omega) (by omega)]
    refine ZwR (deep:=((deep+1:Nat):Int)) hf (ob:=ob) rfl r9 t9 hR hRb p9 (by omega) (by omega) (fun p r h10 hp r10 p10 u10=>?_) fun e' r h10 hp u10=>er (by rw [q9,hp];rfl) (u9.trans u10)
    have hpl:=(Zeq hg hst ob ns sub).2.len hp
    have hpn:p.2.len=sub.len+1/\p.1.length<=ns.length+1:=by
      unfold ZcW at hp
      split at hp
      ·obtain ⟨nm,l3,a1,a2⟩:=Xb hp
       obtain ⟨v,l4,a3,a4⟩:=Xb a2
       cases a4
       exact ⟨JL.len_snoc v sub,by simp⟩
      ·obtain ⟨v,l4,a3,a4⟩:=Xb hp
       cases a4
       exact ⟨JL.len_snoc v sub,by simp⟩
    refine ⟨⟨r,p.1,p.2,r10,p10,tU (u9.trans u10),?_,by omega,by omega,u7.trans (u9.trans u10)⟩,?_⟩
    ·rw [<- q7,q9,hp];rfl
    ·rw [r7.left,r10.left];omega
   ·refine p7.xlen fun x hx=>Zt (fun hgt=>?_) fun hle=>?_
    ·have hnil:sub.isNil=false:=by
       cases hs:sub.isNil with
       | false=>rfl
       | true=>have:=ZpT.1 hs;omega
     refine Z0 (fun _ h'=>h'=h8/\∃ l9,l7=44::l9) ?_ ?_
     ·rintro ⟨⟩ h9 ⟨rfl,l9,rfl⟩
      refine Zdq r7 fun h10 r10 u10 z10=>?_
      have u10':Upd (UB R h3.size) h9 h10:=u10.mono fun j _ hj=> .inl hj
      refine ⟨l9,r10,p7.upd u10 fun j hj=>by subst hj;exact hRb,tU u10',u10',by simp,?_⟩
      rw [hLe]
      show lF pv ob ns sub 44 (44::l9)=_
      unfold lF
      rw [if_neg (by cases ob<;>decide),if_neg (by simp [hnil]),if_pos rfl];rfl
     ·refine Zaa r7 (Zjk 44 (fun hn=>ZbK (α:=List BL × JL) r7 rfl fun e' q hq hq'=>er (h':=h8) ?_ (Upd.refl _ _)) fun l9 e9=>⟨rfl,l9,e9⟩)
      rw [hLe,<- hq]
      rcases l7 with _ | ⟨c,l9⟩
      ·rfl
      ·show lF pv ob ns sub c (c::l9)=_
       have h44:=hn c l9 rfl
       have hend:c≠Zup ob:=by simpa [Zhe] using hne
       unfold lF
       rw [if_neg hend,if_neg (by simp [hnil]),if_neg h44]
    ·have hnil:sub.isNil=true:=ZpT.2 (by omega)
     refine ⟨l7,r7,p7,t7,Upd.refl _ _,Aqo _,?_⟩
     rw [hLe]
     rcases l7 with _ | ⟨c,l9⟩
     ·show Out.err 24 []=_
      rw [Zoe h0];rfl
     ·show lF pv ob ns sub c (c::l9)=_
      have hend:c≠Zup ob:=by simpa [Zhe] using hne
      unfold lF
      rw [if_neg hend,if_pos hnil]
  ·refine ZFd r7 ?_
   have hend0:0<(Zup ob).toNat:=by cases ob<;>decide
   refine Zjk (Zup ob) (fun hn=>⟨rfl,?_⟩) (fun l9 e9=>?_) he hend0
   ·rcases l7 with _ | ⟨c,l9⟩
    ·rfl
    ·simp only [Zhe,beq_eq_false_iff_ne,ne_eq];exact hn c l9 rfl
   ·subst e9
    refine Zoc r7 (fun h=>by cases h) fun _=>Zdq r7 fun h8 r8 u8 z8=>?_
    have u8':Upd (UB R h3.size) h7 h8:=u8.mono fun j _ hj=> .inl hj
    have p8:=p7.upd u8 fun j hj=>by subst hj;exact hRb
    have u38:=u7.trans u8'
    obtain ⟨x,y,cx,c,ox,oy,lr,ne⟩:=id p8
    refine rI (Zb c rfl) (rS (Zb c rfl) (rL (s:=x) (Zb c rfl) (rL (s:=y) (Zb c rfl) ?_)))
    refine Zbc (x:=x) (y:=y) (c1' u38) rfl fun h9 u9 z9=>?_
    have hq:L pv ob [] .nil (Za3 l) = .ok (ns,sub) l9:=by
      rw [<- q7,hLe]
      show lF pv ob ns sub (Zup ob) (Zup ob::l9)=_
      unfold lF
      rw [if_pos rfl];rfl
    have keep9:∀ j,h3.size<=j->j<sz h8->obj h9 j=obj h8 j:=fun j hj hl=>Zo u9 hl (by omega)
    refine hok ⟨if ob then 7 else 6,[],ns,sub⟩ l9 _ h9 (by rw [hq];rfl) (r8.upd u9 (by omega)) (UT (low u38) u9 fun j hj=>by right;omega) ?_
    have hs8:sz h3<=sz h8:=Zj9 u38
    refine ⟨?_,rfl,?_,?_,cx,?_,?_,?_⟩
    ·cases ob<;>rfl
    ·exact (oy.congr fun j _ hl hbj=>keep9 j (by omega) hl).row
    ·intro _ j hj;have:=oy.lt hj;have h9s:sz h8=h8.size:=rfl;exact ⟨by omega,by omega⟩
    ·exact (ox.congr fun j _ hl hbj=>keep9 j (by omega) hl).row
    ·intro _ j hj;have:=ox.lt hj;have h9s:sz h8=h8.size:=rfl;exact ⟨by omega,by omega⟩
    ·exact lr.keep (fun j hj hl=>keep9 j (by omega) hl) fun j hj=>⟨by omega,by omega⟩
def opN:Nat->Bool->BL->Out JV
  | 0=>fun _ l=>Za1 23 l
  | m+1=>Zra (Zbb m)
theorem Zpc (n:Nat):Zbb n=Zig (opN n):=by cases n<;>rfl
theorem ZyW (n:Nat) {l:BL} {c:UInt8} {l1:BL} (e:Za3 l=c::l1):Zbb n l =
    if c=123 then opN n true (c::l1)
    else if c=91 then opN n false (c::l1)
    else if c=34 then (ZnW l1).bind fun t r=> .ok ⟨5,t,[],.nil⟩ r
    else if c=110 then (ZfD [110,117,108,108] (c::l1)).bind fun _ r=> .ok ⟨1,[],[],.nil⟩ r
    else if c=102 then (ZfD [102,97,108,115,101] (c::l1)).bind fun _ r=> .ok ⟨2,[],[],.nil⟩ r
    else if c=116 then (ZfD [116,114,117,101] (c::l1)).bind fun _ r=> .ok ⟨3,[],[],.nil⟩ r
    else if c=45\/ZdP c then (Zm1 (c::l1)).bind fun _ r=> .ok ⟨4,upto (c::l1) r,[],.nil⟩ r
    else .err 20 (c::l1):=by
  rw [Zpc]
  unfold Zig
  rw [e]
theorem Zam.plain (h:Zc) (S:Nat->Prop) (k:Nat) (t:BL):Zam h S ((k:Int),Zk t,⟨none,0,0⟩,⟨none,0,0⟩,()) ⟨k,t,[],.nil⟩ :=
  ⟨rfl,rfl,Row.nil _ _,fun h=>absurd rfl h,[],Row.nil _ _,fun h=>absurd rfl h,rfl⟩
theorem Znd {c:UInt8} {l:BL} {n:Int} {K:Bool->Prop} (hk:K (decide ((c.toNat:Int)=n))):Yx (ZbX (c::l) ==n) K:=by
  have:(ZbX (c::l) ==n)=decide ((c.toNat:Int)=n):=by
    by_cases h:(c.toNat:Int)=n
    ·rw [decide_eq_true h];exact beq_iff_eq.2 h
    ·rw [decide_eq_false h];exact beq_eq_false_iff_ne.2 h
  rw [this];exact hk
def Zys (f20:ZnA) (n:Nat) (deep:Int):Prop:=∀ (ob:Bool) (k e:Int) (h:Zc) (R:Nat) (s:ByteArray) (c0:UInt8) (l:BL) (K:VT5->HP) (P:Value->HP),(k=if ob then 7 else 6)->e=(Zup ob).toNat->Rd h R s (c0::l)->ZaN h->9<=R ->
  (∀ v r z h',opN n ob (c0::l) = .ok v r->Rd h' R s r->Upd (· = R) h h'->Zam h' (fun j=>sz h<=j/\j<sz h') z v->K z h')->OnE h R s (· = R) (opN n ob (c0::l)) P->Xc f20 (At R) k e deep K P h
theorem Zmw {f20:ZnA} {n:Nat} {deep:Int} (hp:Zys f20 n deep):ZoP (ZbB f20) (Zbb n) deep:=by
  intro h R s l K P hr ht hR hok herr
  unfold ZbB Zdk
  have hRs:=hr.lt
  have hszr:sz h=h.size:=rfl
  refine YX fun h1 c1 e1 z1=>?_
  refine Zee (hr.ext e1) fun h2 r2 u2 z2=>?_
  have ht2:ZaN h2:=(ht.ext e1).upd u2 fun j hj=>by subst hj;exact hR
  have hb2:sz h2=h.size+1:=by rw [z2];exact z1
  have low:∀ {a:Zc},Upd (· = R) h2 a->Upd (· = R) h a:=fun u=>UN e1 (u2.trans u)
  have cb:∀ {a:Zc},Upd (· = R) h2 a->obj a h.size=some (.cells zV.toArray 33 (0,0)):=fun u=>ZB c1 (u2.trans u) (by omega)
  have fin:∀ {v:JV} {r:BL} {z:VT5} {h4:Zc},Zbb n l = .ok v r->Rd h4 R s r->Upd (· = R) h2 h4->Zam h4 (fun j=>sz h2<=j/\j<sz h4) z v ->
      sts h4 h.size 0 [.int .u8 z.1,.string z.2.1,.slice z.2.2.1.ptr z.2.2.1.len z.2.2.1.cap,.slice z.2.2.2.1.ptr z.2.2.2.1.len z.2.2.2.1.cap] fun h83 =>
        ldI h83 h.size 0 .u8 fun t84=>ldS h83 h.size (0+1) fun t85=>ldL h83 h.size (0+2) fun t86=>ldL h83 h.size (0+3) fun t87=>K (t84,t85,t86,t87,()) h83:=fun {v r z h4} hv r4 u4 v4=>by
    refine Zbc (x:=z.2.2.1) (y:=z.2.2.2.1) (cb u4) rfl fun h5 u5 z5=>?_
    have s4:=Zj9 u4
    exact hok v r z h5 hv (r4.upd u5 (by omega)) (UT (low u4) u5 fun j hj=>by right;omega) (v4.keep (fun j hj hl=>Zo u5 hl (by omega)) fun j hj=>⟨by omega,by omega⟩)
  have er:∀ {e:Nat} {r:BL} {h':Zc},Zbb n l = .err e r->Upd (· = R) h2 h'->P (ZfH e (s.size - r.length)) h':=fun he u=>herr _ _ _ he (low u)
  refine Z0 (fun _ h'=>h'=h2/\∃ c l1,Za3 l=c::l1/\Zbb n l = .err 20 (c::l1)) ?_ ?_
  ·rintro ⟨⟩ h3 ⟨rfl,c,l1,e3,hv⟩
   refine ZbK (α:=JV) r2 rfl fun e' r he hr'=>er ?_ (Upd.refl _ _)
   rw [hv,<- he,e3];rfl
  ·refine Zaa r2 (Za (Zic r2 fun p hp'=>Zsj r2 (Zh ?_)))
   have hlen:=hp'.len
   cases hsk:Za3 l with
   | nil =>
     rw [hsk] at r2 hlen
     refine Zn (by simp at hlen ⊢;omega) (ZbK (α:=JV) r2 rfl fun e' r he hr'=>er ?_ (Upd.refl _ _))
     rw [Zpc]
     unfold Zig
     rw [hsk,<- he];rfl
   | cons c l1 =>
     have hq:=ZyW n hsk
     rw [hsk] at r2 hlen
     refine Zm (by simp at hlen ⊢;omega) ?_
     refine Znd (Zt (fun h123=>?_) fun h123=>Znd (Zt (fun h91=>?_) fun h91=>Znd (Zt (fun h34=>?_) fun h34=>Znd (Zt (fun h110=>?_) fun h110=>Znd (Zt (fun h102=>?_) fun h102=>Znd (Zt (fun h116=>?_) fun h116=>?_))))))
     ·rw [if_pos (Zko (d:=123) h123)] at hq
      exact hp true 7 125 h2 R s c l1 _ P rfl rfl r2 ht2 hR (fun v r z h4 hv r4 u4 v4=>fin (hq.trans hv) r4 u4 v4) fun e r h4 he u4=>er (hq.trans he) u4
     all_goals rw [if_neg (Zkn (d:=123) h123)] at hq
     ·rw [if_pos (Zko (d:=91) h91)] at hq
      exact hp false 6 93 h2 R s c l1 _ P rfl rfl r2 ht2 hR (fun v r z h4 hv r4 u4 v4=>fin (hq.trans hv) r4 u4 v4) fun e r h4 he u4=>er (hq.trans he) u4
     all_goals rw [if_neg (Zkn (d:=91) h91)] at hq
     ·rw [if_pos (Zko (d:=34) h34)] at hq
      refine Zpo r2 ht2 hR (fun t r h4 hv r4 u4=>?_) fun e r h4 he u4=>er (by rw [hq,he];rfl) u4
      exact fin (z:=(5,Zk t,⟨none,0,0⟩,⟨none,0,0⟩,())) (v:=⟨5,t,[],.nil⟩) (by rw [hq,hv];rfl) r4 u4 (Zam.plain _ _ 5 t)
     all_goals rw [if_neg (Zkn (d:=34) h34)] at hq
     ·rw [if_pos (Zko (d:=110) h110)] at hq
      refine ZkQ r2 (wl:=[110,117,108,108]) rfl (by decide) (fun r h4 hv r4 u4=>?_) fun e r h4 he u4=>er (by rw [hq,he];rfl) u4
      exact fin (v:=⟨1,[],[],.nil⟩) (by rw [hq,hv];rfl) r4 u4 (Zam.plain _ _ 1 [])
     all_goals rw [if_neg (Zkn (d:=110) h110)] at hq
     ·rw [if_pos (Zko (d:=102) h102)] at hq
      refine ZkQ r2 (wl:=[102,97,108,115,101]) rfl (by decide) (fun r h4 hv r4 u4=>?_) fun e r h4 he u4=>er (by rw [hq,he];rfl) u4
      exact fin (v:=⟨2,[],[],.nil⟩) (by rw [hq,hv];rfl) r4 u4 (Zam.plain _ _ 2 [])
     all_goals rw [if_neg (Zkn (d:=102) h102)] at hq
     ·rw [if_pos (Zko (d:=116) h116)] at hq
      refine ZkQ r2 (wl:=[116,114,117,101]) rfl (by decide) (fun r h4 hv r4 u4=>?_) fun e r h4 he u4=>er (by rw [hq,he];rfl) u4
      exact fin (v:=⟨3,[],[],.nil⟩) (by rw [hq,hv];rfl) r4 u4 (Zam.plain _ _ 3 [])
     rw [if_neg (Zkn (d:=116) h116)] at hq
     have num:(c=45\/ZdP c=true)->∀ (Kp:VT5->HP),(∀ z h',Kp z h'=sts h' h.size 0 [.int .u8 z.1,.string z.2.1,.slice z.2.2.1.ptr z.2.2.1.len z.2.2.1.cap,.slice z.2.2.2.1.ptr z.2.2.2.1.len z.2.2.2.1.cap] fun h83 =>
       ldI h83 h.size 0 .u8 fun t84=>ldS h83 h.size (0+1) fun t85=>ldL h83 h.size (0+2) fun t86=>ldL h83 h.size (0+3) fun t87=>K (t84,t85,t86,t87,()) h83)->XN (At R) Kp P h2:=fun hc Kp hK=>by
       rw [if_pos hc] at hq
       refine Zrd r2 (fun r h4 hv r4 u4=>?_) fun e r h4 he u4=>er (by rw [hq,he];rfl) u4
       rw [hK]
       exact fin (z:=(4,Zk (upto (c::l1) r),⟨none,0,0⟩,⟨none,0,0⟩,())) (v:=⟨4,upto (c::l1) r,[],.nil⟩) (by rw [hq,hv];rfl) r4 u4 (Zam.plain _ _ 4 _)
     have bad:¬ (c=45\/ZdP c=true)->Zbb n l = .err 20 (c::l1):=fun hc=>by rw [if_neg hc] at hq;exact hq
     have hz:ZbX (c::l1)=(c.toNat:Int):=rfl
     rw [hz]
     refine ZaX (fun h45=>num (.inl (Zko (d:=45) h45)) _ fun _ _=>rfl) fun h45=>?_
     have n45:c≠45:=Zkn (d:=45) h45
     refine Zt (fun h48=>Zh (Zt (fun h57=>num (.inr (ZeN.2 (by omega))) _ fun _ _=>rfl) fun h57=>?_)) fun h48=>?_
     ·exact ⟨rfl,c,l1,rfl,bad fun hc=>hc.elim n45 fun hd=>by have:=ZeN.1 hd;omega⟩
     ·exact ⟨rfl,c,l1,rfl,bad fun hc=>hc.elim n45 fun hd=>by have:=ZeN.1 hd;omega⟩
theorem Zmx:∀ n:Nat,n<=64->ZoP (XC (n+1)) (Zbb n) ((64 - n:Nat):Int)
  | 0,_=>Zmw (f20:=XC 0) (n:=0) fun ob k e h R s c0 l K P hk he hr ht hR hok herr=>ZtO hr herr
  | n+1,hn=>Zmw (f20:=XC (n+1)) (n:=n+1) fun ob k e h R s c0 l K P hk he hr ht hR hok herr=>by
    refine ZtN (Zgh n).1 (Zgh n).2 (Zv7 n) (deep:=64 - (n+1)) (by omega) ?_ hr ht hR hk he hok herr
    have:=Zmx n (by omega)
    rw [show 64 - (n+1)+1=64 - n by omega]
    exact this
theorem ZeW {h:Zc} {b o:Nat} {vs:List Value} {K:Zc->Prop} {l:List Value} {e:TypeId} (hb:obj h b=some (.cells l.toArray e (0,0))) (ho:o+vs.length<=l.length) (hv:vs.all Yc=true)
    (hk:∀ h',obj h' b=some (.cells (Za8 o vs l).toArray e (0,0))->Upd (· = b) h h'->sz h'=sz h->K h'):sts h b o vs K:=by
  rw [Zpq (by rw [hb,Zfz];simpa using ho) hv]
  exact hk _ (by rw [ZdE,if_pos rfl,hb,Zbz]) (Upd.puts h b o vs) Ziv
def zJ:JV:=⟨0,[],[],.nil⟩
structure Res (h:Zc) (b b2 b4:Nat) (z:VT5) (e n:Int):Prop where
  v:obj h b=some (.cells (Xl z).toArray 33 (0,0))
  e:obj h b2=some (.cells [.int .i64 e].toArray 37 (0,0))
  n:obj h b4=some (.cells [.int .i64 n].toArray 3 (0,0))
theorem Zoa {h:Zc} {b b2 b4:Nat} {z:VT5} {e n:Int} (hr:Res h b b2 b4 z e n) {K:VT5->Int->Int->HP} (hk:K z e n h):Zh3 b b2 b4 K h :=
  rI (Zb hr.v rfl) (rS (Zb hr.v rfl) (rL (s:=z.2.2.1) (Zb hr.v rfl) (rL (s:=z.2.2.2.1) (Zb hr.v rfl) (rI (Zb hr.e rfl) (rI (Zb hr.n rfl) hk)))))
theorem Zmh {h:Zc} {b b2 b4:Nat} {z0:VT5} {e0 n0:Int} (hr:Res h b b2 b4 z0 e0 n0) (h12:b≠b2) (h14:b≠b4) (h24:b2≠b4) {e n:Nat} {K:VT5->Int->Int->HP}
    (hk:∀ h',Upd (fun j=>j=b\/j=b2\/j=b4) h h'->K (0,Zk [],⟨none,0,0⟩,⟨none,0,0⟩,()) e n h'):Zdd b b2 b4 K (ZfH e n) h:=by
  have lb:=ZaJ hr.v
  have lb2:=ZaJ hr.e
  have lb4:=ZaJ hr.n
  refine ⟨e,n,rfl,.inr ⟨_,_,rfl,Ze7 (Zgt ?_)⟩⟩
  refine YX fun h2 c2 e2 z2=>ZeW c2 (by simp) (by simp [Yc]) fun h3 c3 u3 z3=>?_
  have c3':obj h3 h.size=some (.cells [.int .i64 e,.int .i64 n].toArray 160 (0,0)):=c3
  have hs:sz h=h.size:=rfl
  have hb3:obj h3 b=some (.cells (Xl z0).toArray 33 (0,0)):=ZB (Zl hr.v e2) u3 (by omega)
  have hb23:obj h3 b2=some (.cells [.int .i64 e0].toArray 37 (0,0)):=ZB (Zl hr.e e2) u3 (by omega)
  have hb43:obj h3 b4=some (.cells [.int .i64 n0].toArray 3 (0,0)):=ZB (Zl hr.n e2) u3 (by omega)
  refine rI (Zb c3' rfl) (rI (Zb c3' rfl) (Zu (ZeW hb3 (by simp [Xl]) (by simp [Yc]) fun h6 c6 u6 z6=>?_)))
  have w6:=ZB c3' u6 (show ¬ h.size=b by omega)
  refine Zdb (Zb w6 rfl) (Zdb (Zb w6 rfl) (Zu (Zjw (ZB hb23 u6 (Ne.symm h12)) (by simp) ZfT fun h9 c9 u9 z9=>?_)))
  have w9:=ZB w6 u9 (show ¬ h.size=b2 by omega)
  refine Zdb (Zb w9 rfl) (Zu (Zjw (ZB (ZB hb43 u6 (Ne.symm h14)) u9 (Ne.symm h24)) (by simp) ZfT fun h10 c10 u10 z10=>?_))
  have u:Upd (fun j=>j=b\/j=b2\/j=b4) h h10:=by
    refine UT (UT (UT (UT (e2.upd _) u3 fun j hj=> .inr (by omega)) u6 fun j hj=> .inl (.inl hj)) u9 fun j hj=> .inl (.inr (.inl hj))) u10 fun j hj=> .inl (.inr (.inr hj))
  refine Zoa ⟨ZB (ZB c6 u9 h12) u10 h14,ZB c9 u10 h24,c10⟩ (hk h10 u)
def ZrR (h:Zc) (S:Nat->Prop) (g:Got) (z:VT5) (e n:Int):Prop:=match g with
  | .ok v=>Zam h S z v/\e=0/\n=0
  | .err e' k=>Zam h S z zJ/\e=e'/\n=k
theorem ZmY {h:Zc} {s:ByteArray} (ht:ZaN h) (hh:9<=sz h) {K:VT5->Int->Int->HP}
    (hk:∀ z e n h',Ext h h'->ZrR h' (fun j=>sz h<=j/\j<sz h') (Zer s.data.toList) z e n->K z e n h'):Zaz s K h:=by
  unfold Zaz
  have hs0:sz h=h.size:=rfl
  refine YX fun h1 c1 e1 z1=>YX fun h3 c3 e3 z3=>YX fun h5 c5 e5 z5=>?_
  have hs1:sz h1=h1.size:=rfl
  have hs3:sz h3=h3.size:=rfl
  have hs5:sz h5=h5.size:=rfl
  have hz:Xl (0,Zk [],⟨none,0,0⟩,⟨none,0,0⟩,())=zV:=rfl
  have v5:Res h5 h.size h1.size h3.size (0,Zk [],⟨none,0,0⟩,⟨none,0,0⟩,()) 0 0:=⟨Zl (Zl c1 e3) e5,Zl c3 e5,c5⟩
  have e05:Ext h h5:=(e1.trans e3).trans e5
  have low:∀ {S:Nat->Prop} {a:Zc},Upd S h5 a->(∀ j,S j->sz h<=j)->Ext h a:=fun u hS=>e05.updS u hS
  have hlen:s.data.toList.length=s.size:=by simp
  refine Zt (fun hlong=>?_) fun hshort=>?_
  ·refine ZeW v5.v (by simp [Xl]) (by simp [Yc]) fun h6 c6 u6 z6=>?_
   refine Zjw (ZB v5.e u6 (show ¬ h1.size=h.size by omega)) (by simp) ZfT fun h7 c7 u7 z7=>?_
   refine Zjw (ZB (ZB v5.n u6 (show ¬ h3.size=h.size by omega)) u7 (show ¬ h3.size=h1.size by omega)) (by simp) ZfT fun h8 c8 u8 z8=>?_
   refine Zoa (z:=(0,Zk [],⟨none,0,0⟩,⟨none,0,0⟩,())) ⟨ZB (ZB c6 u7 (show ¬ h.size=h1.size by omega)) u8 (show ¬ h.size=h3.size by omega),ZB c7 u8 (show ¬ h1.size=h3.size by omega),c8⟩ (hk _ _ _ h8 ?_ ?_)
   ·refine low (S:=fun j=>sz h<=j) (UT (UT (u6.mono fun j _ hj=>by subst hj;omega) u7 fun j hj=> .inl (by omega)) u8 fun j hj=> .inl (by omega)) fun j hj=>hj
   ·rw [ZjQ (by omega)]
    exact ⟨Zam.plain _ _ 0 [],rfl,rfl⟩
  ·have hs:s.size<=65536:=by omega
   refine YX fun h15 c15 e15 z15=>?_
   have r15:Rd h15 h5.size s s.data.toList:=⟨hs,0,c15,Zjt.start s⟩
   have t15:ZaN h15:=ht.ext (e05.trans e15)
   have pp:=Zof (l:=s.data.toList) (by omega)
   have recov:∀ {a:Zc} {z0:VT5} {e0 n0:Int} {e n:Nat},Res a h.size h1.size h3.size z0 e0 n0->Ext h a->Zer s.data.toList = .err e n->Zdd h.size h1.size h3.size K (ZfH e n) a:=fun {a z0 e0 n0 e n} hr ea hp=>by
     refine Zmh hr (by omega) (by omega) (by omega) fun h' u=>hk _ _ _ h' (ea.updS u fun j hj=>by omega) ?_
     rw [hp]
     exact ⟨Zam.plain _ _ 0 [],rfl,rfl⟩
   have v15:Res h15 h.size h1.size h3.size (0,Zk [],⟨none,0,0⟩,⟨none,0,0⟩,()) 0 0:=⟨Zl v5.v e15,Zl v5.e e15,Zl v5.n e15⟩
   have resU:∀ {S:Nat->Prop} {a c:Zc} {z:VT5} {e n:Int},Res a h.size h1.size h3.size z e n->Upd S a c->(∀ j,S j->h5.size<=j)->Res c h.size h1.size h3.size z e n:=fun r u hS =>
     ⟨ZB r.v u fun h9=>by have:=hS _ h9;omega,ZB r.e u fun h9=>by have:=hS _ h9;omega,ZB r.n u fun h9=>by have:=hS _ h9;omega⟩
   have hR9:∀ j,j=h5.size->h5.size<=j:=fun j hj=>by omega
   refine ⟨65,?_⟩
   refine Zmx 64 (Aqo _) h15 h5.size s _ _ _ r15 t15 (by omega) (fun v r z h17 hv r17 u17 v17=>?_) fun e r h17 he u17=>?_
   ·have w17:=resU v15 u17 hR9
    refine ZeW w17.v (by simp [Xl]) (Zcf z) fun h18 c18 u18 z18=>?_
    have c18':obj h18 h.size=some (.cells (Xl z).toArray 33 (0,0)):=c18
    have hs15:sz h15=sz h5+1:=z15
    have v18:Zam h18 (fun j=>sz h15<=j/\j<sz h18) z v:=v17.keep (fun j hj hl=>Zo u18 hl (by omega)) fun j hj=>⟨hj.1,by omega⟩
    have e18:Ext h h18:=((e05.trans e15).updS u17 fun j hj=>by subst hj;omega).updS u18 fun j hj=>by omega
    have w18:Res h18 h.size h1.size h3.size z 0 0:=⟨c18',ZB w17.e u18 (by omega),ZB w17.n u18 (by omega)⟩
    refine Zee (r17.upd u18 (by omega)) fun h19 r19 u19 z19=>?_
    have w19:=resU w18 u19 hR9
    have e19:Ext h h19:=e18.updS u19 fun j hj=>by subst hj;omega
    have v19:Zam h19 (fun j=>sz h15<=j/\j<sz h19) z v:=v18.keep (fun j hj hl=>Zo u19 hl (by omega)) fun j hj=>⟨hj.1,by omega⟩
    obtain ⟨_,p,cp,gp⟩:=id r19
    have hpl:=gp.len
    rw [hv] at pp
    simp only at pp
    refine rI (Zb cp rfl) (Zt (fun hlt=>rI (Zb cp rfl) ?_) fun hge=>?_)
    ·cases hsk:Za3 r with
     | nil=>rw [hsk] at hpl;simp at hpl;omega
     | cons c r' =>
       rw [hsk] at pp r19 hpl
       simp only at pp
       refine ZsT r19 hlt ?_
       have:=recov w19 e19 pp
       unfold ZfH at this
       have hnum:((s.data.toList.length - (c::r').length:Nat):Int)=(p:Int):=by omega
       rw [hnum] at this
       exact this
    ·have hsk:Za3 r=[]:=Aqr (by omega)
     rw [hsk] at pp
     simp only at pp
     unfold ZiE
     refine rI (Zb w19.v rfl) (rS (Zb w19.v rfl) (rL (s:=z.2.2.1) (Zb w19.v rfl) (rL (s:=z.2.2.2.1) (Zb w19.v rfl) ?_)))
     refine ZeW w19.v (by simp [Xl]) (Zcf z) fun h20 c20 u20 z20=>?_
     have c20':obj h20 h.size=some (.cells (Xl z).toArray 33 (0,0)):=c20
     refine Zjw (ZB w19.e u20 (show ¬ h1.size=h.size by omega)) (by simp) ZfT fun h21 c21 u21 z21=>?_
     refine Zjw (ZB (ZB w19.n u20 (show ¬ h3.size=h.size by omega)) u21 (show ¬ h3.size=h1.size by omega)) (by simp) ZfT fun h22 c22 u22 z22=>?_
     refine Zoa ⟨ZB (ZB c20' u21 (show ¬ h.size=h1.size by omega)) u22 (show ¬ h.size=h3.size by omega),ZB c21 u22 (show ¬ h1.size=h3.size by omega),c22⟩ (hk _ _ _ h22 ?_ ?_)
     ·exact ((e19.updS u20 fun j hj=>by omega).updS u21 fun j hj=>by omega).updS u22 fun j hj=>by omega
     ·rw [pp]
      have u:Upd (fun j=>j<h5.size) h19 h22:=((u20.mono fun j _ hj=>by omega).trans (u21.mono fun j _ hj=>by omega)).trans (u22.mono fun j _ hj=>by omega)
      exact ⟨v19.keep (fun j hj hl=>Zo u hl (by omega)) fun j hj=>⟨by omega,by have:=Zj9 u;omega⟩,rfl,rfl⟩
   ·have w17:=resU v15 u17 hR9
    have e17:Ext h h17:=(e05.trans e15).updS u17 fun j hj=>by subst hj;omega
    rw [he] at pp
    simp only at pp
    rw [hlen] at pp
    exact recov w17 e17 pp
section
variable {h:Zc} {R e:Nat} {s:ByteArray} {l:BL}
end
section
variable {h:Zc} {R:Nat} {s:ByteArray} {l:BL}
end
section
variable {h:Zc} {R:Nat} {s:ByteArray} {l:BL}
end
section
variable {h:Zc} {R:Nat} {s:ByteArray} {l:BL}
end
section
variable {h:Zc} {R:Nat} {s:ByteArray} {l:BL}
end
end Go.Proofs.YtpjbjdheeemdiaaGreatDoor
namespace Go.Js
open Go
namespace JL
def drop:Nat->JL->JL
  | 0,l=>l
  | _+1,nil=>nil
  | n+1,cons _ _ _ _ r=>r.drop n
def hei:JL->Nat
  | nil=>0
  | cons _ _ _ s r=>max (s.hei+1) r.hei
theorem drop_len:∀ (n:Nat) (l:JL),(l.drop n).len=l.len - n
  | 0,l=>rfl
  | n+1,nil=>by simp [drop,len]
  | n+1,cons _ _ _ _ r=>by simp only [drop,len,drop_len n r];omega
theorem drop_succ:∀ (n:Nat) (l:JL) {k:Nat} {t:BL} {ns:List BL} {s r:JL},l.drop n=cons k t ns s r->l.drop (n+1)=r
  | 0,l,_,_,_,_,_,h=>by rw [show l=_ from h];rfl
  | n+1,nil,_,_,_,_,_,h=>by cases h
  | n+1,cons _ _ _ _ r,_,_,_,_,_,h=>drop_succ n r h
theorem drop_cons {n:Nat} {l:JL} (h:n<l.len):∃ k t ns s r,l.drop n=cons k t ns s r:=by
  have:=drop_len n l
  cases hd:l.drop n with
  | nil=>rw [hd] at this;simp [len] at this;omega
  | cons k t ns s r=>exact ⟨k,t,ns,s,r,rfl⟩
theorem drop_nil {n:Nat} {l:JL} (h:l.len<=n):l.drop n=nil:=by
  have:=drop_len n l
  exact ZC8.1 (by omega)
theorem drop_hei:∀ (n:Nat) (l:JL) {k:Nat} {t:BL} {ns:List BL} {s r:JL},l.drop n=cons k t ns s r->s.hei+1<=l.hei
  | 0,l,_,_,_,_,_,h=>by rw [show l=_ from h];simp only [hei];omega
  | n+1,nil,_,_,_,_,_,h=>by cases h
  | n+1,cons _ _ _ _ r,_,_,_,_,_,h=>by have:=drop_hei n r h;simp only [hei];omega
end JL
end Go.Js
namespace Go.Proofs.YtpjbjdheeemdiaaGreatDoor
open Go Go.Fw Go.Js
theorem Xm.drop {h:Zc} {S:Nat->Prop}:∀ (n:Nat) {l:JL} {vs:List Value},Xm h S l vs->Xm h S (l.drop n) (vs.drop (n*4))
  | 0,l,vs,h=>by simpa [JL.drop] using h
  | n+1,.nil,vs,h=>by rw [show vs=[] from h];simp [JL.drop,Xm]
  | n+1,.cons k t ns s r,vs,h=>by
    obtain ⟨x,y,cx,vs',e,a,b,c,d,f,g⟩:=h
    have:=Xm.drop n g
    rw [e]
    show Xm _ _ (r.drop n) _
    have e2:(Xl ((k:Int),Zk t,x,y,())++vs').drop ((n+1)*4)=vs'.drop (n*4):=by
      rw [List.drop_append,show (Xl ((k:Int),Zk t,x,y,())).length=4 from rfl,Azf (by show 4<=_;omega),Ayq]
      congr 1
      omega
    rw [e2];exact this
theorem ZfW {h:Zc} {S:Nat->Prop} {l:JL} {vs:List Value} {x:Sl} (hr:Row h x 4 vs) (hl:Xm h S l vs) {i:Nat} {k:Nat} {t:BL} {ns:List BL} {s r:JL} (hd:l.drop i = .cons k t ns s r) {n:Int} (hn:n=i) {K:Int->ByteArray->Sl->Sl->Prop}
    (hk:∀ z:VT5,Zam h S z ⟨k,t,ns,s⟩->K z.1 z.2.1 z.2.2.1 z.2.2.2.1):ZcM x.ptr x.len n 4 fun b o=>ldI h b o .u8 fun t1=>ldS h b (o+1) fun t2=>ldL h b (o+2) fun t3=>ldL h b (o+3) fun t4=>K t1 t2 t3 t4:=by
  subst hn
  have hlen:=hl.len
  have hxl:=hr.len
  have hi:i<l.len:=by
    have:=JL.drop_len i l
    rw [hd] at this
    simp [JL.len] at this
    omega
  have hL:=Xm.drop i hl
  rw [hd] at hL
  obtain ⟨sx,sy,cx,vs',e,a,b,c,d,f,g⟩:=hL
  rcases hr.at_ with h0 | ⟨bb,o,hp,hh⟩
  ·omega
  ·rw [hp]
   have get:∀ j v,(Xl ((k:Int),Zk t,sx,sy,()))[j]?=some v->h.cell bb (o+i*4+j)=some v:=fun j v hv=>by
     have h1:vs[i*4+j]?=some v:=by
       rw [<- Aqg,e,Awu]
       ·exact hv
       ·rcases Aqd j (Xl ((k:Int),Zk t,sx,sy,())).length with h | h
        ·exact h
        ·rw [Aqt h] at hv;cases hv
     have:=ZhH hh h1
     rw [Aqh];exact this
   have gc:∀ j v,(Xl ((k:Int),Zk t,sx,sy,()))[j]?=some v->ZbA (o+i*4+j) (obj h bb)=some v:=fun j v hv=>by rw [<- X6];exact get j v hv
   refine ZlC (n:=i) rfl (by omega) (rI (gc 0 _ rfl) (rS (gc 1 _ rfl) (rL (s:=sx) (gc 2 _ rfl) (rL (s:=sy) (gc 3 _ rfl) (hk ((k:Int),Zk t,sx,sy,()) ⟨rfl,rfl,a,b,cx,c,d,f⟩)))))
theorem ZfV {h:Zc} {ns:List BL} {x:Sl} (hr:Row h x 1 (ns.map sV)) {i:Nat} {t:BL} (ht:ns[i]?=some t) {n:Int} (hn:n=i) {K:ByteArray->Prop} (hk:K (Zk t)):ZcM x.ptr x.len n 1 fun b o=>ldS h b o K :=
  Row.idx hr hn (v:=sV t) (by simp [ht]) fun b o _ hc=>⟨_,hc,hk⟩
theorem ZaQ {h:Zc} {ns:List BL} {x:Sl} (hr:Row h x 1 (ns.map sV)):x.len=ns.length:=by have:=hr.len;simp at this;omega
theorem Zqs {a b:BL}:Zk a=Zk b↔a=b:=by
  constructor
  ·intro h
   have:=congrArg (fun b:ByteArray=>b.data.toList) h
   simpa [Zk] using this
  ·rintro rfl;rfl
theorem Zag (a b:BL):Zch (Zk a) (Zk b)=decide (a=b):=by
  rw [Zps]
  exact decide_eq_decide.2 Zqs
theorem Zam.ext {h h':Zc} {S:Nat->Prop} {z:VT5} {v:JV} (hv:Zam h S z v) (hS:∀ j,S j->j<sz h) (u:Ext h h'):Zam h' S z v:=hv.keep (fun j hj _=>Zq u (hS j hj)) fun j hj=>hj
end Go.Proofs.YtpjbjdheeemdiaaGreatDoor
namespace Go.Proofs.YtpjbjdheeemdiaaGreatDoor
open Go Go.Fw Go.Js
def upd {α:Type} (f:BL->Option α) (k:BL) (v:Option α):BL->Option α:=fun j=>if j=k then v else f j
theorem ZnQ {α:Type} (f:BL->Option α) (k:BL) (v:Option α):upd f k v k=v:=if_pos rfl
theorem ZmA {α:Type} (f:BL->Option α) {k j:BL} (v:Option α) (h:j≠k):upd f k v j=f j:=if_neg h
structure ZyC (es:Array MapEntry) (f:BL->Option Value):Prop where
  tw:∀ e,e∈es.toList->∃ k,e.key=sV k/\f k=some e.val
  of:∀ k v,f k=some v->∃ e,e∈es.toList/\e.key=sV k
def ZoW (h:Zc) (mb:Nat) (f:BL->Option Value) (n:Nat):Prop :=
  ∃ es c,h[mb]?=some (.map es c)/\MapKept.Stamped es c/\es.size=n/\ZyC es f
theorem ZAy {a b:BL} (h:sV a=sV b):a=b:=by injection h with h;exact Zqs.1 h
theorem ZyC.key {es:Array MapEntry} {f:BL->Option Value} (he:ZyC es f):∀ x,x∈es.toList->MapKept.IsKey .string x.key:=fun x hx=>by
  obtain ⟨k,hk,_⟩:=he.tw x hx
  rw [hk]
  trivial
theorem ZyC.val {es:Array MapEntry} {f:BL->Option Value} (he:ZyC es f) {e:MapEntry} (hm:e∈es.toList) {k:BL} (hk:e.key=sV k):f k=some e.val:=by
  obtain ⟨j,hj,hv⟩:=he.tw e hm
  rw [hk] at hj
  rw [ZAy hj]
  exact hv
theorem ZyC.find {es:Array MapEntry} {f:BL->Option Value} (he:ZyC es f) (k:BL) :
    (Instr.findNow .string (sV k) es.toList 0=some none/\f k=none)\/∃ j e,Instr.findNow .string (sV k) es.toList 0=some (some (j,e.val))/\es.toList[j]?=some e/\e.key=sV k/\f k=some e.val:=by
  rcases MapKept.findNow_spec (d:= .string) (k:=sV k) trivial es.toList 0 he.key with ⟨h1,h2⟩ | ⟨j,e,h1,h2,h3⟩
  ·refine .inl ⟨h1,?_⟩
   cases hf:f k with
   | none=>rfl
   | some v =>
     obtain ⟨e,hm,hk⟩:=he.of k v hf
     exact absurd hk (h2 e hm)
  ·rw [Awb] at h1
   exact .inr ⟨j,e,h1,h2,h3,he.val (Axq h2) h3⟩
theorem ZoW.congr {h h':Zc} {mb:Nat} {f:BL->Option Value} {n:Nat} (hm:ZoW h mb f n) (he:h'[mb]?=h[mb]?):ZoW h' mb f n:=by
  obtain ⟨es,c,hb,r⟩:=hm
  exact ⟨es,c,he.trans hb,r⟩
theorem ZoW.lt {h:Zc} {mb:Nat} {f:BL->Option Value} {n:Nat} (hm:ZoW h mb f n):mb<h.size:=by
  obtain ⟨es,c,hb,r⟩:=hm
  exact ZFH hb
theorem ZoW.new {h:Zc} {K:Nat->Zc->Prop} (hk:∀ h1,ZoW h1 h.size (fun _=>none) 0->Ext h h1->h1.size=h.size+1->K h.size h1):Zij h K :=
  hk _ ⟨#[],0,Zjc,MapKept.stamped_empty 0,rfl,⟨fun e he=>by simp at he,fun k v hv=>by cases hv⟩⟩ (Ext.push _ _) (by simp)
theorem ZoW.get {h:Zc} {mb:Nat} {f:BL->Option Value} {n:Nat} (hm:ZoW h mb f n) (k:BL) {K:Option Value->Prop} (hk:K (f k)):ZsB .string h (some mb) (sV k) K:=by
  obtain ⟨es,c,hb,hs,hn,he⟩:=hm
  refine ⟨(fun e=>by cases e),fun b e=>?_⟩
  cases e
  rcases he.find k with ⟨h1,h2⟩ | ⟨j,e,h1,h2,h3,h4⟩
  ·exact ⟨es,c,none,hb,h1,by rw [h2] at hk;exact hk⟩
  ·exact ⟨es,c,_,hb,h1,by rw [h4] at hk;exact hk⟩
theorem ZwC {h:Zc} {b:Nat} {x:Obj}:Upd (· = b) h (h.setIfInBounds b x) :=
  ⟨by simp,fun k _ hk=>by rw [Awj (fun e=>hk e.symm)]⟩
theorem ZAv {h:Zc} {b:Nat} {x:Obj} (hb:b<h.size):(h.setIfInBounds b x)[b]?=some x:=by simp [hb]
theorem ZyC.modify {es:Array MapEntry} {f:BL->Option Value} (he:ZyC es f) {c:Nat} (hs:MapKept.Stamped es c) {j:Nat} {e:MapEntry} {k:BL} (hj:es.toList[j]?=some e) (hk:e.key=sV k) (v:Value) :
    ZyC (es.modify j fun x=>{ x with key:=sV k,val:=v }) (upd f k (some v))/\MapKept.Stamped (es.modify j fun x=>{ x with key:=sV k,val:=v }) c:=by
  have hj':es[j]?=some e:=by simpa using hj
  have uniq:∀ i x,es.toList[i]?=some x->x.key=sV k->i=j:=by
    intro i x hi hx
    have hnd:=hs.2.2
    have h1:(es.toList.map (·.key))[i]?=some (sV k):=by rw [Awz,hi];simp [hx]
    have h2:(es.toList.map (·.key))[j]?=some (sV k):=by rw [Awz,hj];simp [hk]
    obtain ⟨hil,h1⟩:=Azj.1 h1
    obtain ⟨hjl,h2⟩:=Azj.1 h2
    exact (List.getElem_inj hnd).1 (h1.trans h2.symm)
  refine ⟨⟨fun x hx=>?_,fun i u hu=>?_⟩,?_⟩
  ·obtain ⟨i,hi⟩:=Azk hx
   rw [Axr,Aqi] at hi
   by_cases hij:j=i
   ·subst hij
    rw [if_pos rfl,hj'] at hi
    simp only [Aqx,Awh] at hi
    subst hi
    exact ⟨k,rfl,ZnQ _ _ _⟩
   ·rw [if_neg hij] at hi
    have hi':es.toList[i]?=some x:=by simpa using hi
    obtain ⟨m,hm,hv⟩:=he.tw x (Axq hi')
    refine ⟨m,hm,?_⟩
    rw [ZmA]
    ·exact hv
    ·intro hmk
     subst hmk
     exact hij (uniq i x hi' hm).symm
  ·by_cases hik:i=k
   ·subst hik
    refine ⟨{ e with key:=sV i,val:=v },?_,rfl⟩
    refine Axq (i:=j) ?_
    rw [Axr,Aqi,if_pos rfl,hj']
    rfl
   ·rw [ZmA f _ hik] at hu
    obtain ⟨x,hx,hxk⟩:=he.of i u hu
    obtain ⟨m,hm⟩:=Azk hx
    refine ⟨x,Axq (i:=m) ?_,hxk⟩
    rw [Axr,Aqi,if_neg]
    ·simpa using hm
    ·intro hjm
     subst hjm
     rw [hj] at hm
     cases hm
     exact hik (ZAy (hxk.symm.trans hk))
  ·refine MapKept.stamped_modify hs j _ (fun x _=>rfl) fun x _ hx=>?_
   rw [hj'] at hx
   cases hx
   exact hk.symm
theorem ZoW.put {h:Zc} {mb:Nat} {f:BL->Option Value} {n:Nat} (hm:ZoW h mb f n) (k:BL) (v:Value) {K:Zc->Prop}
    (hk:∀ h',ZoW h' mb (upd f k (some v)) (if (f k).isSome then n else n+1)->Upd (· = mb) h h'->h'.size=h.size->K h'):Xr .string h (some mb) (sV k) v K:=by
  have hlt:=hm.lt
  obtain ⟨es,c,hb,hs,hn,he⟩:=hm
  rcases he.find k with ⟨h1,h2⟩ | ⟨j,e,h1,h2,h3,h4⟩
  ·refine ⟨mb,es,c,none,rfl,hb,he.key,h1,hk _ ⟨es.push { key:=sV k,val:=v,born:=c },c+1,ZAv hlt,MapKept.stamped_push hs fun x hx hxk=>?_,by simp [h2,hn],⟨fun x hx=>?_,fun i u hu=>?_⟩⟩ ZwC (by simp)⟩
   ·have:=he.val hx hxk
    rw [h2] at this
    cases this
   ·simp only [Array.toList_push,Axz,Axu] at hx
    rcases hx with hx | rfl
    ·obtain ⟨m,hm,hv⟩:=he.tw x hx
     refine ⟨m,hm,?_⟩
     rw [ZmA]
     ·exact hv
     ·intro hmk
      subst hmk
      rw [h2] at hv
      cases hv
    ·exact ⟨k,rfl,ZnQ _ _ _⟩
   ·simp only [Array.toList_push,Axz,Axu]
    by_cases hik:i=k
    ·subst hik
     exact ⟨_,.inr rfl,rfl⟩
    ·rw [ZmA f _ hik] at hu
     obtain ⟨x,hx,hxk⟩:=he.of i u hu
     exact ⟨x,.inl hx,hxk⟩
  ·obtain ⟨g1,g2⟩:=he.modify hs h2 h3 v
   exact ⟨mb,es,c,_,rfl,hb,he.key,h1,hk _ ⟨_,c,ZAv hlt,g2,by simp [h4,hn],g1⟩ ZwC (by simp)⟩
end Go.Proofs.YtpjbjdheeemdiaaGreatDoor
namespace Go.Proofs.YtpjbjdheeemdiaaGreatDoor
open Go Go.Fw Go.ChangeShapes Go.WideShapes
theorem Zxi {n:Nat} (h:n<=maxLen):n<9223372036854775808:=by
  have e:maxLen=9223372036854775807:=by decide
  omega
theorem Zwy {w:World} {a:Addr} {v:Value} (h:w.cell? a=some v):a=⟨a.block,a.off,none⟩:=by
  obtain ⟨b,o,s⟩:=a
  unfold World.cell? at h
  split at h
  ·cases s with
   | none=>rfl
   | some s=>simp at h
  ·cases h
theorem Ztb {b o i:Nat}:(⟨b,o,none⟩:Addr).add i=⟨b,o+i,none⟩:=Zkl b o i
section
variable {H:Type} {enc:TypeId × Value->H} {P:Program} {w:World} {base:Nat} {spare:Nat->Bool} {held:Bool}
end
end Go.Proofs.YtpjbjdheeemdiaaGreatDoor
namespace Go.Js
open Go
def ZLP (t:BL):Bool:=match Zer t with
  | .ok v=>decide (v.k=4)&&decide (v.t=t)
  | .err _ _=>false
def whB (k:Nat) (t:BL) (ns:List BL) (sub:JL):Bool :=
  if k=1\/k=2\/k=3 then decide (t=[])&&(sub.isNil&&decide (ns=[]))
  else if k=4 then ZLP t&&(sub.isNil&&decide (ns=[]))
  else if k=5 then Lib.validD t&&(sub.isNil&&decide (ns=[]))
  else if k=6 then decide (t=[])&&decide (ns=[])
  else if k=7 then decide (t=[])&&(decide (ns.length=sub.len)&&ns.all Lib.validD)
  else false
def ZFw:JL->Prop
  | .nil=>True
  | .cons _ t ns sub rest=>t.length<9223372036854775807/\(∀ n∈ns,n.length<9223372036854775807)/\ZFw sub/\ZFw rest
def ZFx (v:JV):Prop:=v.t.length<9223372036854775807/\(∀ n∈v.ns,n.length<9223372036854775807)/\ZFw v.sub
abbrev Rt:=Nat->BL->List BL->JL->Bool
def ZeV (rt:Rt):Nat->JL->Nat->Nat->Bool × Nat × Nat
  | _,.nil,n,dp=>(true,n,dp)
  | d,.cons k t ns sub rest,n,dp =>
    if 65536<n+1 then (false,n+1,dp)
    else if rt k t ns sub=false then (false,n+1,dp)
    else if k≠6/\k≠7 then ZeV rt d rest (n+1) dp
    else if 64<=d then ZeV rt d rest (n+1) (max dp (d+1))
    else if (ZeV rt (d+1) sub (n+1) (max dp (d+1))).1=true then ZeV rt d rest (ZeV rt (d+1) sub (n+1) (max dp (d+1))).2.1 (ZeV rt (d+1) sub (n+1) (max dp (d+1))).2.2
    else ZeV rt (d+1) sub (n+1) (max dp (d+1))
def Zhg (rt:Rt) (d:Nat) (v:JV) (n dp:Nat):Bool × Nat × Nat:=ZeV rt d (.cons v.k v.t v.ns v.sub .nil) n dp
theorem ZvZ (rt:Rt) (d k:Nat) (t:BL) (ns:List BL) (sub rest:JL) (n dp:Nat):ZeV rt d (.cons k t ns sub rest) n dp =
    if (Zhg rt d ⟨k,t,ns,sub⟩ n dp).1=true then ZeV rt d rest (Zhg rt d ⟨k,t,ns,sub⟩ n dp).2.1 (Zhg rt d ⟨k,t,ns,sub⟩ n dp).2.2 else Zhg rt d ⟨k,t,ns,sub⟩ n dp:=by
  unfold Zhg
  simp only [ZeV]
  by_cases h1:65536<n+1
  ·simp [h1]
  by_cases h2:rt k t ns sub=false
  ·simp [h1,h2]
  by_cases h3:k≠6/\k≠7
  ·simp [h1,h2,h3]
  by_cases h4:64<=d
  ·simp [h1,h2,h3,h4]
  by_cases h5:(ZeV rt (d+1) sub (n+1) (max dp (d+1))).1=true
  ·simp [h1,h2,h3,h4,h5]
  ·simp [h1,h2,h3,h4,h5]
theorem ZsS:∀ (n:Nat) {l:JL} {k:Nat} {t:BL} {ns:List BL} {s r:JL},ZFw l->l.drop n = .cons k t ns s r->ZFx ⟨k,t,ns,s⟩
  | 0,l,k,t,ns,s,r,h,e=>by
    rw [show l=_ from e] at h
    exact ⟨h.1,h.2.1,h.2.2.1⟩
  | n+1,.nil,_,_,_,_,_,_,e=>by cases e
  | n+1,.cons _ _ _ _ r',_,_,_,_,_,h,e=>ZsS n h.2.2.2 e
end Go.Js
namespace Go.Proofs.YtpjbjdheeemdiaaGreatDoor
open Go Go.Fw Go.Js
section
variable {h:Zc}
theorem Zov {t:BL} (ht:ZaN h) (hh:9<=sz h) {K:Bool->HP} (hk:∀ h',Ext h h'->K (ZLP t) h'):Zcq (Zk t) K h:=by
  unfold Zcq Zfy
  refine ZmY ht hh fun z e n h1 e1 g=>?_
  have hp:(Zk t).data.toList=t:=rfl
  rw [hp] at g
  refine YX fun h2 c2 e2 z2=>?_
  have c2':obj h2 h1.size=some (.cells zV.toArray 33 (0,0)):=c2
  refine ZeW c2' (by simp) (Zcf z) fun h3 c3 u3 z3=>Za (Za ?_)
  have c3':obj h3 h1.size=some (.cells (Xl z).toArray 33 (0,0)):=c3
  have hs1:sz h1=h1.size:=rfl
  have key:=hk h3 ((e1.trans e2).updS u3 fun j hj=>by have:=e1.size;have:sz h=h.size:=rfl;omega)
  unfold ZLP at key
  cases hq:Zer t with
  | err e' k =>
    rw [hq] at g key
    obtain ⟨_,he,_⟩:=g
    have:=Zzu hq
    exact Zm (beq_eq_false_iff_ne.2 (by omega)) key
  | ok v =>
    rw [hq] at g key
    obtain ⟨vr,he,_⟩:=g
    simp only at key
    refine Zn (by rw [he];rfl) (rI (Zb c3' rfl) ?_)
    rw [vr.1]
    refine ZaX (fun h4=>rS (Zb c3' rfl) (Zh ?_)) fun h4=>?_
    ·rw [decide_eq_true (show v.k=4 by omega),Aqa] at key
     rw [vr.2.1,Zag];exact key
    ·rw [decide_eq_false (show ¬ v.k=4 by omega),Aqb] at key
     exact key
theorem ZoO {ns:List BL} {x:Sl} (hr:Row h x 1 (ns.map sV)) (hx:inS (fun j=>j<sz h) x) (hfit:∀ n∈ns,n.length<9223372036854775807) (ht:ZaN h) {K:Bool->HP} (hk:∀ h',Ext h h'->K (!ns.all Lib.validD) h'):ZN x K h:=by
  unfold ZN Yz Yj YF
  have hl:=ZaQ hr
  have hbig:=hr.big
  have hcap:=hr.cap
  refine Za ?_
  refine Zv (fun p h'=>∃ i:Nat,p.1=i/\i<=ns.length/\Ext h h'/\(ns.take i).all Lib.validD=true) (fun p _=>(ns.length - p.1).toNat) ⟨0,rfl,Ayk _,Ext.refl _,rfl⟩ ?_
  rintro ⟨i0,u⟩ h2 ⟨i,hi,hle,e2,hall⟩
  dsimp only at hi ⊢
  subst hi
  refine Zt (fun hlt=>Za ?_) fun hge=>Za (Zh ?_)
  ·have hia:i<ns.length:=by omega
   have hr2:Row h2 x 1 (ns.map sV):=Yi hr hx fun j hj hl=>Zq e2 hl
   refine ZfV hr2 (Ayb hia) rfl ?_
   unfold Zel Zga
   have hfi:=hfit ns[i] (Azl hia)
   refine ⟨ht.ext e2,by rw [Zfi];omega,fun h3 e3=>Zh ?_⟩
   have hv:Lib.validD (Zk ns[i]).data.toList=Lib.validD ns[i]:=rfl
   rw [hv]
   cases hd:Lib.validD ns[i] with
   | true =>
     refine Zm rfl ?_
     rw [Yt (by omega) (by omega)]
     refine ⟨⟨i+1,rfl,by omega,e2.trans e3,?_⟩,by omega⟩
     rw [Ayu,Ayb hia,Azm,hall]
     simp [hd]
   | false =>
     refine Zn rfl (Za (Zh ?_))
     have:=hk h3 (e2.trans e3)
     have hna:ns.all Lib.validD=false:=by
       rw [List.all_eq_false]
       exact ⟨ns[i],Azl hia,by simp [hd]⟩
     rw [hna] at this
     rw [decide_eq_true (show (i:Int)>=0 by omega)];exact this
  ·rw [Awd (by omega)] at hall
   have:=hk h2 e2
   rw [hall] at this
   exact this
theorem ZDH {a b:Bool} {K:Bool->Prop} (hk:K (a&&b)):Zz (!!a) (Yx (!!b) K) (K false):=by
  cases a
  ·exact Zm rfl hk
  ·cases b<;>exact Zn rfl (Zh hk)
theorem ZMc {a b c:Bool} {K:Bool->Prop} (hk:K (a&&(b&&c))):Zz (!!a) (Zz (!!b) (Yx (!!c) K) (K false)) (K false):=by
  cases a
  ·exact Zm rfl hk
  ·exact Zn rfl (ZDH hk)
theorem ZFJ {a b c:Bool} {K:Bool->Prop} (hk:K (a&&(b&&c))):Zz a (Zz (!!b) (Yx (!!c) K) (K false)) (K false):=by
  cases a
  ·exact Zm rfl hk
  ·exact Zn rfl (ZDH hk)
theorem ZE5 {x:Sl} {sub:JL} (hl:x.len=sub.len):decide ((x.len:Int)>0) = !sub.isNil:=by
  cases sub with
  | nil=>rw [hl];rfl
  | cons k t ns s r=>rw [hl];simp [JL.len,JL.isNil]
theorem ZLQ {x:Sl} {ns:List BL} (hl:x.len=ns.length):decide ((x.len:Int)>0) = !decide (ns=[]):=by
  cases ns with
  | nil=>rw [hl];rfl
  | cons a ns=>rw [hl];simp
theorem Ztj {z:VT5} {v:JV} {S:Nat->Prop} (hv:Zam h S z v) (hS:∀ j,S j->j<sz h) (hfit:ZFx v) (ht:ZaN h) (hh:9<=sz h) {K:Bool->HP} (hk:∀ h',Ext h h'->K (whB v.k v.t v.ns v.sub) h'):Zev z K h:=by
  unfold Zev ZhL
  obtain ⟨a1,a2,a3,a4,cx,a5,a6,a7⟩:=hv
  refine YX fun h1 c1 e1 z1=>?_
  have c1':obj h1 h.size=some (.cells (Xl z).toArray 33 (0,0)):=c1
  have hll:z.2.2.1.len=v.sub.len:=by have:=a5.len;have:=a7.len;omega
  have hnl:=ZaQ a3
  refine rS (Zb c1' rfl) (rL (s:=z.2.2.1) (Zb c1' rfl) (rL (s:=z.2.2.2.1) (Zb c1' rfl) (Zh (Zh (Zh (rI (Zb c1' rfl) ?_))))))
  have htxt:(!Zch z.2.1 (ByteArray.mk #[])) = !decide (v.t=[]):=by rw [a2,show (ByteArray.mk #[])=Zk [] from rfl,Zag]
  rw [htxt,ZE5 hll,ZLQ hnl,a1]
  have key:=hk h1 e1
  have e_:∀ {n:Nat} {A B:Prop},(v.k=n->A)->(v.k≠n->B)->Yx ((v.k:Int) ==(n:Int)) fun t=>Zz t A B:=fun {n A B} ha hb=>Zh (ZaX (fun e=>ha (by omega)) fun e=>hb (by omega))
  refine Z0 (fun p h'=>h'=h1/\(p.1=true↔v.k=1\/v.k=2\/v.k=3)) ?_ ?_
  ·rintro ⟨b,u⟩ h2 ⟨rfl,hb⟩
   dsimp only at hb ⊢
   cases hbb:b with
   | true =>
     have h123:=hb.1 hbb
     unfold whB at key
     rw [if_pos h123] at key
     refine Zn rfl ?_
     exact ZMc (K:=fun t=>K t h2) key
   | false =>
     have h123:¬ (v.k=1\/v.k=2\/v.k=3):=fun e=>by have:=hb.2 e;rw [hbb] at this;cases this
     refine Zm rfl ?_
     refine e_ (n:=4) (fun e4=>?_) fun n4=>e_ (n:=5) (fun e5=>?_) fun n5=>e_ (n:=6) (fun e6=>?_) fun n6=>e_ (n:=7) (fun e7=>?_) fun n7=>?_
     ·refine rS (Zb c1' rfl) ?_
      rw [a2]
      have hs1:9<=sz h2:=by have:=e1.size;have:sz h2=h2.size:=rfl;have:sz h=h.size:=rfl;omega
      refine Zov (ht.ext e1) hs1 fun h3 e3=>?_
      have key:=hk h3 (e1.trans e3)
      unfold whB at key
      rw [if_neg h123,if_pos e4] at key
      exact ZFJ (K:=fun t=>K t h3) key
     ·refine rS (Zb c1' rfl) ?_
      rw [a2]
      have hf:=hfit.1
      refine ⟨ht.ext e1,by rw [Zfi];omega,fun h3 e3=>?_⟩
      have hvd:Lib.validD (Zk v.t).data.toList=Lib.validD v.t:=rfl
      rw [hvd]
      have key:=hk h3 (e1.trans e3)
      unfold whB at key
      rw [if_neg h123,if_neg n4,if_pos e5] at key
      exact ZFJ (K:=fun t=>K t h3) key
     ·unfold whB at key
      rw [if_neg h123,if_neg n4,if_neg n5,if_pos e6] at key
      exact ZDH (K:=fun t=>K t h2) key
     ·unfold whB at key
      rw [if_neg h123,if_neg n4,if_neg n5,if_neg n6,if_pos e7] at key
      cases htt:decide (v.t=[]) with
      | false=>rw [htt] at key;exact Zm rfl key
      | true =>
        rw [htt,Aqa] at key
        refine Zn rfl (rL (s:=z.2.2.2.1) (Zb c1' rfl) (rL (s:=z.2.2.1) (Zb c1' rfl) (ZaX (fun hel=>?_) fun hel=>?_)))
        ·refine rL (s:=z.2.2.2.1) (Zb c1' rfl) (ZoO (Yi a3 a4 fun j hj hl=>Zq e1 hl) ?_ hfit.2.1 (ht.ext e1) fun h3 e3=>Zh ?_)
         ·intro hl j hj
          have:=hS j (a4 hl j hj)
          have:=e1.size
          have:sz h2=h2.size:=rfl
          have:sz h=h.size:=rfl
          omega
         ·have key:=hk h3 (e1.trans e3)
          unfold whB at key
          rw [if_neg h123,if_neg n4,if_neg n5,if_neg n6,if_pos e7,htt,Aqa,decide_eq_true (show v.ns.length=v.sub.len by omega),Aqa] at key
          rw [Bool.not_not];exact key
        ·rw [decide_eq_false (show ¬ v.ns.length=v.sub.len by omega),Aqb] at key
         exact key
     ·unfold whB at key
      rw [if_neg h123,if_neg n4,if_neg n5,if_neg n6,if_neg n7] at key
      exact key
  ·refine e_ (n:=1) (fun e=>⟨rfl,by simp [e]⟩) fun n1=>e_ (n:=2) (fun e=>⟨rfl,by simp [e]⟩) fun n2=>Zh ⟨rfl,?_⟩
   simp only [beq_iff_eq]
   omega
end
end Go.Proofs.YtpjbjdheeemdiaaGreatDoor
namespace Go.Proofs.YtpjbjdheeemdiaaGreatDoor
open Go Go.Fw Go.Js
def ZMv (right:Value) (rt:Rt):Prop:=(right = .func (.func 94) #[] #[]/\rt=whB)\/(right = .func (.func 119) #[] #[]/\rt=fun _ _ _ _=>true)
abbrev ZNY (n dp:Nat):List Value:=[.int .i64 n,.int .i64 dp]
def ZoS (h:Zc) (C n dp:Nat):Prop:=obj h C=some (.cells (ZNY n dp).toArray 157 (0,0))
theorem Zgg (rt:Rt):∀ (l:JL) (d n dp:Nat),n<=65536->(ZeV rt d l n dp).2.1<=65537/\((ZeV rt d l n dp).1=true->(ZeV rt d l n dp).2.1<=65536)
  | .nil,d,n,dp,h=>⟨by show n<=65537;omega,fun _=>h⟩
  | .cons k t ns sub rest,d,n,dp,h=>by
    simp only [ZeV]
    split
    ·exact ⟨by show n+1<=65537;omega,fun h=>by cases h⟩
    split
    ·exact ⟨by show n+1<=65537;omega,fun h=>by cases h⟩
    split
    ·exact Zgg rt rest d (n+1) dp (by omega)
    split
    ·exact Zgg rt rest d (n+1) _ (by omega)
    split
    ·rename_i hs
     have:=Zgg rt sub (d+1) (n+1) (max dp (d+1)) (by omega)
     exact Zgg rt rest d _ _ (this.2 hs)
    ·have:=Zgg rt sub (d+1) (n+1) (max dp (d+1)) (by omega)
     exact this
theorem Ze3 (rt:Rt):∀ (l:JL) (d n dp:Nat),d<=64->dp<=65->(ZeV rt d l n dp).2.2<=65
  | .nil,d,n,dp,_,h=>h
  | .cons k t ns sub rest,d,n,dp,hd,h=>by
    simp only [ZeV]
    split
    ·exact h
    split
    ·exact h
    split
    ·exact Ze3 rt rest d (n+1) dp hd h
    split
    ·exact Ze3 rt rest d (n+1) _ hd (by omega)
    split
    ·exact Ze3 rt rest d _ _ hd (Ze3 rt sub (d+1) (n+1) _ (by omega) (by omega))
    ·exact Ze3 rt sub (d+1) (n+1) _ (by omega) (by omega)
theorem rV {h:Zc} {b o:Nat} {n:Value} {K:Value->Prop} (hc:ZbA o (obj h b)=some n) (hk:K n):ldV h b o K:=by rw [ZFg hc];exact hk
def ZDI (f53:Zmu) (right:Value) (rt:Rt) (v:JV):Prop:=∀ {h:Zc} {C n dp d:Nat} {z:VT5} {S:Nat->Prop} {K:Bool->HP},Zam h S z v->(∀ j,S j->j<sz h/\j≠C)->ZFx v->ZaN h->9<=C->ZoS h C n dp->n<=65536->d<=64->dp<=65 ->
    (∀ h',ZoS h' C (Zhg rt d v n dp).2.1 (Zhg rt d v n dp).2.2->Upd (· = C) h h'->K (Zhg rt d v n dp).1 h')->f53 (At C) z d right K h
theorem ZNR {a b:Nat}:ZAI (a:Int) (b:Int)=((max a b:Nat):Int):=by
  unfold ZAI
  split<;>omega
theorem Zpa {f53:Zmu} {right:Value} {rt:Rt} (hrt:ZMv right rt) {v:JV} (hsub:∀ i k t ns s r,v.sub.drop i = .cons k t ns s r->ZDI f53 right rt ⟨k,t,ns,s⟩):ZDI (ZcF f53) right rt v:=by
  intro h C n dp d z S K hv hS hfit ht hC hc hn hd hdp hk
  unfold ZcF Zed
  have hCs:=ZaJ hc
  have hs:sz h=h.size:=rfl
  refine YX fun h1 c1 e1 z1=>YX fun h3 c3 e3 z3=>YX fun h5 c5 e5 z5=>?_
  have hone:Yc right=true:=by rcases hrt with ⟨e,_⟩ | ⟨e,_⟩<;>rw [e]<;>simp [Yc]
  refine ⟨hone,YX fun h7 c7 e7 z7=>?_⟩
  have e17:=(e3.trans e5).trans e7
  have e07:=e1.trans e17
  have s1:sz h1=h1.size:=rfl
  have s3:sz h3=h3.size:=rfl
  have s5:sz h5=h5.size:=rfl
  have b1:obj h7 h.size=some (.cells [.pointer (At C)].toArray 155 (0,0)):=Zl c1 e17
  have b2:obj h7 h1.size=some (.cells (Xl z).toArray 33 (0,0)):=Zl c3 (e5.trans e7)
  have b3:obj h7 h3.size=some (.cells [.int .i64 d].toArray 3 (0,0)):=Zl c5 e7
  have b4:obj h7 h5.size=some (.cells [right].toArray 45 (0,0)):=c7
  have hC7:ZoS h7 C n dp:=Zl hc e07
  refine rP (Zb b1 rfl) (Zu (rI (Zb hC7 rfl) (Zu (Zjw hC7 (by simp) ZfT fun h8 c8 u8 z8=>?_))))
  have hC8:ZoS h8 C (n+1) dp:=by
    unfold ZoS
    rw [c8,Yt (by omega) (by omega)];rfl
  have d1:¬ h.size=C:=by omega
  have d2:¬ h1.size=C:=by omega
  have d3:¬ h3.size=C:=by omega
  have d4:¬ h5.size=C:=by omega
  have g1:=ZB b1 u8 d1
  have g2:=ZB b2 u8 d2
  have g3:=ZB b3 u8 d3
  have g4:=ZB b4 u8 d4
  have u08:Upd (· = C) h h8:=UN e07 u8
  have hW:Zhg rt d v n dp=ZeV rt d (.cons v.k v.t v.ns v.sub .nil) n dp:=rfl
  simp only [ZeV] at hW
  refine rP (Zb g1 rfl) (Zu (rI (Zb hC8 rfl) (Zt (fun hbig=>?_) fun hsmall=>rV (Zb g4 rfl) (rI (Zb g2 rfl) (rS (Zb g2 rfl) (rL (s:=z.2.2.1) (Zb g2 rfl) (rL (s:=z.2.2.2.1) (Zb g2 rfl) ?_)))))))
  ·rw [if_pos (by omega)] at hW
   rw [hW] at hk
   exact hk h8 hC8 u08
  rw [if_neg (by omega)] at hW
  have v8:Zam h8 S z v:=hv.keep (fun j hj hl=>Zo u08 hl (hS j hj).2) fun j hj=>hj
  have hS8:∀ j,S j->j<sz h8:=fun j hj=>Aqq (hS j hj).1 (Zj9 u08)
  have t8:ZaN h8:=ht.upd u08 fun j hj=>by subst hj;exact hC
  have rest:∀ h22,Ext h8 h22->(fun t24 h22 =>
     Zz (!t24) (
     K false h22) (
     Zgf (σ:=Unit) (fun s h29 =>
     ldP h29 h.size 0 fun t30 =>
     ldP h29 h.size 0 fun t31 =>
     Ze t31 fun b32 o33 =>
     ldI h29 b32 (o33+1) .i64 fun t34 =>
     ldI h29 h3.size 0 .i64 fun t35 =>
     Ze t30 fun b36 o37 =>
     st h29 b36 (o37+1) (.int .i64 (ZAI t34 (IntKind.wrap .i64 (t35+1)))) fun h38 =>
     ldI h38 h3.size 0 .i64 fun t39 =>
     Zz (decide (t39>=64)) (
     K true h38) (
     ldL h38 h1.size (0+2) fun t40 =>
     Zy f53 t40 (some ⟨h.size,0,none⟩,some ⟨h3.size,0,none⟩,some ⟨h5.size,0,none⟩,()) (fun t41 h42 =>
     Yx (!t41) fun t43 =>
     K t43 h42) h38)) (fun J26 =>
     ldI h22 h1.size 0 .u8 fun t27 =>
     Zz (t27 !=6) (
     ldI h22 h1.size 0 .u8 fun t28 =>
     Zz (t28 !=7) (
     K true h22) (
     J26 (()) h22)) (
     J26 (()) h22)))) (rt v.k v.t v.ns v.sub) h22:=by
    intro h22 e22
    have hC22:ZoS h22 C (n+1) dp:=Zl hC8 e22
    have u022:=u08.trans (e22.upd _)
    have g1:=Zl g1 e22
    have g2:=Zl g2 e22
    have g3:=Zl g3 e22
    have g4:=Zl g4 e22
    cases hr:rt v.k v.t v.ns v.sub with
    | false =>
      rw [if_pos hr] at hW
      rw [hW] at hk
      exact Zn rfl (hk h22 hC22 u022)
    | true =>
      rw [if_neg (by simp [hr])] at hW
      refine Zm rfl ?_
      refine Z0 (fun _ h'=>h'=h22/\(v.k=6\/v.k=7)) ?_ ?_
      ·rintro ⟨⟩ h29 ⟨rfl,hk67⟩
       rw [if_neg (by omega)] at hW
       refine rP (Zb g1 rfl) (rP (Zb g1 rfl) (Zu (rI (Zb hC22 rfl) (rI (Zb g3 rfl) (Zu (Zjw hC22 (by simp) ZfT fun h38 c38 u38 z38=>?_))))))
       have hC38:ZoS h38 C (n+1) (max dp (d+1)):=by
         unfold ZoS
         rw [c38,Yt (by omega) (by omega),show (d:Int)+1=((d+1:Nat):Int) from rfl,ZNR];rfl
       have g1:=ZB g1 u38 d1
       have g2:=ZB g2 u38 d2
       have g3:=ZB g3 u38 d3
       have g4:=ZB g4 u38 d4
       have u038:=u022.trans u38
       refine rI (Zb g3 rfl) (Zt (fun h64=>?_) fun h64=>?_)
       ·rw [if_pos (by omega)] at hW
        rw [hW] at hk
        exact hk h38 hC38 u038
       ·rw [if_neg (by omega)] at hW
        refine rL (s:=z.2.2.1) (Zb g2 rfl) ?_
        unfold Zy Yg ZP Yk
        obtain ⟨a1,a2,a3,a4,cx,a5,a6,a7⟩:=id hv
        have hlx:z.2.2.1.len=v.sub.len:=by have:=a5.len;have:=a7.len;omega
        have hbig:=a5.big
        have hcap:=a5.cap
        refine Za ?_
        refine Zv (fun p h'=>∃ i ni di:Nat,p.1=i/\i<=v.sub.len/\Upd (· = C) h38 h'/\ZoS h' C ni di/\ni<=65536/\di<=65/\ZeV rt (d+1) v.sub (n+1) (max dp (d+1))=ZeV rt (d+1) (v.sub.drop i) ni di) (fun p _=>(v.sub.len - p.1).toNat)
          ⟨0,n+1,max dp (d+1),rfl,Ayk _,Upd.refl _ _,hC38,by omega,by omega,rfl⟩ ?_
        rintro ⟨i0,u⟩ h40 ⟨i,ni,di,hi,hle,u40,hC40,hni,hdi,q40⟩
        dsimp only at hi ⊢
        subst hi
        have u040:=u038.trans u40
        refine Zt (fun hlt=>Za ?_) fun hge=>Za (Zh (Zh ?_))
        ·have hia:i<v.sub.len:=by omega
         obtain ⟨k,t,ns,s,r,hd9⟩:=JL.drop_cons hia
         have keepS:∀ j,S j->j<sz h->obj h40 j=obj h j:=fun j hj hl=>Zo u040 hl (hS j hj).2
         have ra:Row h40 z.2.2.1 4 cx:=Yi a5 a6 keepS
         have la:Xm h40 S v.sub cx:=a7.keep keepS fun j hj=>hj
         refine ZfW ra la hd9 rfl fun zi hzi=>?_
         unfold ZbC Zdm
         refine YX fun h41 c41 e41 z41=>?_
         have c41':obj h41 h40.size=some (.cells (Xl zi).toArray 33 (0,0)):=c41
         have g1:=Zl (ZB g1 u40 d1) e41
         have g3:=Zl (ZB g3 u40 d3) e41
         have g4:=Zl (ZB g4 u40 d4) e41
         refine Zu (rP (Zb g1 rfl) (rI (Zb c41' rfl) (rS (Zb c41' rfl) (rL (s:=zi.2.2.1) (Zb c41' rfl) (rL (s:=zi.2.2.2.1) (Zb c41' rfl) (Zu (rI (Zb g3 rfl) (Zu (rV (Zb g4 rfl) ?_)))))))))
         rw [Yt (by omega) (by omega),show (d:Int)+1=((d+1:Nat):Int) from rfl]
         have u041:=u040.trans (e41.upd _)
         have hwc:=ZvZ rt (d+1) k t ns s r ni di
         have hnle:=Zgg rt (.cons k t ns s .nil) (d+1) ni di hni
         have hdle:=Ze3 rt (.cons k t ns s .nil) (d+1) ni di (by omega) hdi
         rw [hd9,hwc] at q40
         refine hsub i k t ns s r hd9 (h:=h41) (S:=S) (hzi.keep (fun j hj hl=>Zq e41 hl) fun j hj=>hj) (fun j hj=>⟨Aqq (hS j hj).1 (Zj9 u041),(hS j hj).2⟩) (ZsS i hfit.2.2 hd9) (ht.upd u041 fun j hj=>by subst hj;exact hC) hC (Zl hC40 e41) hni (by omega) hdi fun h42 hC42 u42=>Zh ?_
         have hwv:Zhg rt (d+1) ⟨k,t,ns,s⟩ ni di=ZeV rt (d+1) (.cons k t ns s .nil) ni di:=rfl
         rw [<- hwv] at hnle hdle
         cases hw:(Zhg rt (d+1) ⟨k,t,ns,s⟩ ni di).1 with
         | true =>
           rw [if_pos hw] at q40
           refine Zm rfl ?_
           rw [Yt (by omega) (by omega)]
           exact ⟨⟨i+1,_,_,rfl,by omega,u40.trans ((e41.upd _).trans u42),hC42,hnle.2 hw,hdle,by rw [q40,JL.drop_succ i _ hd9]⟩,by omega⟩
         | false =>
           rw [if_neg (by simp [hw])] at q40
           refine Zn rfl (Za (Zh (Zh ?_)))
           rw [q40,if_neg (by simp [hw])] at hW
           rw [hW,hw] at hk
           rw [show decide ((i:Int)>=0)=true by simp]
           exact hk h42 hC42 (u041.trans u42)
        ·rw [JL.drop_nil (by omega)] at q40
         have q9:ZeV rt (d+1) v.sub (n+1) (max dp (d+1))=(true,ni,di):=q40
         rw [q9,if_pos rfl] at hW
         have hW9:Zhg rt d v n dp=(true,ni,di):=hW
         rw [hW9] at hk
         exact hk h40 hC40 u040
      ·refine rI (Zb g2 rfl) ?_
       rw [hv.1]
       refine Zax (fun n6=>rI (Zb g2 rfl) ?_) fun e6=>⟨rfl,.inl (by omega)⟩
       rw [hv.1]
       refine Zax (fun n7=>?_) fun e7=>⟨rfl,.inr (by omega)⟩
       rw [if_pos (by omega)] at hW
       have hW9:Zhg rt d v n dp=(true,n+1,dp):=hW
       rw [hW9] at hk
       exact hk h22 hC22 u022
  rcases hrt with ⟨hr1,hr2⟩ | ⟨hr1,hr2⟩
  ·refine .inl ⟨hr1,?_⟩
   subst hr2
   refine Ztj (z:=z) v8 hS8 hfit t8 (by have:=Zj9 u08;omega) fun h22 e22=>?_
   exact rest h22 e22
  ·refine .inr (.inl ⟨hr1,?_⟩)
   subst hr2
   unfold Zem Zgb
   refine YX fun h22 c22 e22 z22=>?_
   exact rest h22 e22
theorem Zpb {right:Value} {rt:Rt} (hrt:ZMv right rt):∀ (m:Nat) (v:JV),v.sub.hei<=m->ZDI (X3 (m+1)) right rt v
  | 0,v,hm=>Zpa (f53:=X3 0) hrt fun i k t ns s r hd=>by
    have:=JL.drop_hei i v.sub hd
    omega
  | m+1,v,hm=>Zpa (f53:=X3 (m+1)) hrt fun i k t ns s r hd=>Zpb hrt m ⟨k,t,ns,s⟩ (by have:=JL.drop_hei i v.sub hd;show s.hei<=m;omega)
def ZwL (v:JV):Bool:=(Zhg whB 0 v 0 0).1&&decide ((Zhg whB 0 v 0 0).2.2<=64)
theorem ZtE {h:Zc} {z:VT5} {v:JV} {S:Nat->Prop} {K:Bool->HP} (hv:Zam h S z v) (hS:∀ j,S j->j<sz h) (hfit:ZFx v) (ht:ZaN h) (hh:9<=sz h) (hk:∀ h',Ext h h'->K (ZwL v) h'):Zew z K h:=by
  unfold Zew ZhM
  have hs:sz h=h.size:=rfl
  refine YX fun h1 c1 e1 z1=>YX fun h3 c3 e3 z3=>?_
  have s1:sz h1=h1.size:=rfl
  have c1':obj h3 h.size=some (.cells (Xl z).toArray 33 (0,0)):=Zl c1 e3
  have e03:=e1.trans e3
  refine rI (Zb c1' rfl) (rS (Zb c1' rfl) (rL (s:=z.2.2.1) (Zb c1' rfl) (rL (s:=z.2.2.2.1) (Zb c1' rfl) ?_)))
  refine ⟨v.sub.hei+1,Zpb (rt:=whB) (.inl ⟨rfl,rfl⟩) _ v (Aqo _) (n:=0) (dp:=0) (d:=0) (z:=z) (hv.ext hS e03) (fun j hj=>⟨Aqq (hS j hj) e03.size,by have:=hS j hj;omega⟩) hfit (ht.ext e03) (by omega) c3 (by omega) (by omega) (by omega) fun h8 hC8 u8=>?_⟩
  have key:=hk h8 (e03.updS u8 fun j hj=>by omega)
  unfold ZwL at key
  cases hw:(Zhg whB 0 v 0 0).1 with
  | false=>rw [hw] at key;exact Zm rfl key
  | true =>
    rw [hw,Aqa] at key
    refine Zn rfl (rI (Zb hC8 rfl) (Zh ?_))
    rw [show decide ((((Zhg whB 0 v 0 0).2.2:Nat):Int)<=64)=decide ((Zhg whB 0 v 0 0).2.2<=64) by rw [decide_eq_decide];omega]
    exact key
end Go.Proofs.YtpjbjdheeemdiaaGreatDoor
namespace Go.Js
open Go
end Go.Js
namespace Go.Proofs.YtpjbjdheeemdiaaGreatDoor
open Go Go.Fw Go.Js
section
variable {h:Zc} {B:Nat} {T:TypeId} {out:BL}
end
end Go.Proofs.YtpjbjdheeemdiaaGreatDoor
namespace Go.Js
open Go
end Go.Js
namespace Go.Proofs.YtpjbjdheeemdiaaGreatDoor
open Go Go.Fw Go.Js
theorem ZtQ {h:Zc} {n:Int} (hn : -9223372036854775808<=n/\n<=9223372036854775807) (ht:ZaN h) {K:VT5->HP} (hk:∀ h',Ext h h'->K (4,Zk (Lib.itoa n),⟨none,0,0⟩,⟨none,0,0⟩,()) h'):Zex n K h:=by
  unfold Zex ZhN
  refine YX fun h1 c1 e1 z1=>⟨ht.ext e1,hn.1,hn.2,fun h2 e2=>?_⟩
  have c1':obj h1 h.size=some (.cells zV.toArray 33 (0,0)):=c1
  have hs:sz h=h.size:=rfl
  exact Zbc (x:=⟨none,0,0⟩) (y:=⟨none,0,0⟩) (Zl c1' e2) rfl fun h3 u3 z3=>hk h3 ((e1.trans e2).updS u3 fun j hj=>by omega)
end Go.Proofs.YtpjbjdheeemdiaaGreatDoor
namespace Go.Js
open Go
end Go.Js
namespace Go.Proofs.YtpjbjdheeemdiaaGreatDoor
open Go Go.Fw Go.Js
theorem Zyh {l:BL} (hl:l.length<=281474976710656) {h:Zc} (ht:ZaN h) {K:Int->Value->HP}
    (h1:∀ v h',Lib.atoiAll l = .ok v->Ext h h'->K v .nilIface h') (h2:∀ n t p h',(∀ v,Lib.atoiAll l≠ .ok v)->Ext h h'->K n (.iface t p) h'):Zek (Zk l) K h:=by
  refine ⟨ht,hl,?_⟩
  show match Lib.atoiAll l with
    | .ok v=>_
    | .range=>_
    | _=>_
  cases e:Lib.atoiAll l with
  | ok v=>exact fun h' e'=>h1 v h' e e'
  | _=>exact fun h' t p e'=>h2 _ t p h' (fun v h=>by rw [e] at h;cases h) e'
end Go.Proofs.YtpjbjdheeemdiaaGreatDoor
namespace Go.Js
open Go
def Got.val:Got->JV
  | .ok v=>v
  | .err _ _=>⟨0,[],[],.nil⟩
end Go.Js
namespace Go.Proofs.YtpjbjdheeemdiaaGreatDoor
open Go Go.Fw Go.Js
theorem _root_.Go.Fw.Ext.szz {h h':Zc} (e:Ext h h'):sz h<=sz h':=e.size
theorem ZrR.val {h:Zc} {S:Nat->Prop} {g:Got} {z:VT5} {e n:Int} (r:ZrR h S g z e n):Zam h S z g.val:=by
  cases g with
  | ok v=>exact r.1
  | err e k=>exact r.1
theorem ZrR.ext {h h':Zc} {S:Nat->Prop} {g:Got} {z:VT5} {e n:Int} (r:ZrR h S g z e n) (hS:∀ j,S j->j<sz h) (u:Ext h h'):ZrR h' S g z e n:=by
  cases g with
  | ok v=>exact ⟨r.1.ext hS u,r.2⟩
  | err e k=>exact ⟨r.1.ext hS u,r.2⟩
theorem ZrR.mono {h:Zc} {S S':Nat->Prop} {g:Got} {z:VT5} {e n:Int} (r:ZrR h S g z e n) (hs:∀ j,S j->S' j):ZrR h S' g z e n:=by
  cases g with
  | ok v=>exact ⟨r.1.keep (fun _ _ _=>rfl) hs,r.2⟩
  | err e k=>exact ⟨r.1.keep (fun _ _ _=>rfl) hs,r.2⟩
theorem ZrR.same {h h':Zc} {S S':Nat->Prop} {g:Got} {z z':VT5} {e n e' n':Int} (r:ZrR h S g z e n) (r':ZrR h' S' g z' e' n'):e=e'/\n=n':=by
  cases g with
  | ok v=>exact ⟨r.2.1.trans r'.2.1.symm,r.2.2.trans r'.2.2.symm⟩
  | err e k=>exact ⟨r.2.1.trans r'.2.1.symm,r.2.2.trans r'.2.2.symm⟩
theorem ZzH {f:ZCr} {h:Zc} {s:ByteArray} {g:Got} {K:VT5->Int->Int->Nat->HP}
    (hf:∀ K':VT5->Int->Int->HP,(∀ z e n h',Ext h h'->ZrR h' (fun j=>sz h<=j/\j<sz h') g z e n->K' z e n h')->f s K' h)
    (hk:∀ z e n b h',Ext h h'->obj h' b=some (.cells (Xl z).toArray 33 (0,0))->sz h<=b->b<sz h'->ZrR h' (fun j=>sz h<=j/\j<sz h') g z e n->K z e n b h') :
    f s (fun t t1 t2 h3=>newC h3 [.int .u8 0,.string (ByteArray.mk #[]),.slice none 0 0,.slice none 0 0] 33 fun b h4 =>
      sts h4 b 0 [.int .u8 t.1,.string t.2.1,.slice t.2.2.1.ptr t.2.2.1.len t.2.2.1.cap,.slice t.2.2.2.1.ptr t.2.2.2.1.len t.2.2.2.1.cap] fun h5=>K t t1 t2 b h5) h:=by
  refine hf _ fun z e n h1 e1 r=>YX fun h2 c2 e2 z2=>?_
  have c2':obj h2 h1.size=some (.cells zV.toArray 33 (0,0)):=c2
  have s1:sz h1=h1.size:=rfl
  have s2:sz h2=h2.size:=rfl
  have h01:=e1.szz
  refine ZeW c2' (by simp) (Zcf z) fun h3 c3 u3 z3=>?_
  have e3:Ext h1 h3:=e2.updS u3 fun j hj=>by omega
  refine hk z e n _ h3 (e1.trans e3) c3 (by omega) (by omega) ?_
  exact (r.ext (fun j hj=>hj.2) e3).mono fun j hj=>⟨hj.1,by have:=e3.szz;omega⟩
theorem ZwT {h:Zc} {s:ByteArray} (ht:ZaN h) (hh:9<=sz h) {K:VT5->Int->Int->Nat->HP}
    (hk:∀ z e n b h',Ext h h'->obj h' b=some (.cells (Xl z).toArray 33 (0,0))->sz h<=b->b<sz h'->ZrR h' (fun j=>sz h<=j/\j<sz h') (Zer s.data.toList) z e n->K z e n b h') :
    Zaz s (fun t t1 t2 h3=>newC h3 [.int .u8 0,.string (ByteArray.mk #[]),.slice none 0 0,.slice none 0 0] 33 fun b h4 =>
     sts h4 b 0 [.int .u8 t.1,.string t.2.1,.slice t.2.2.1.ptr t.2.2.1.len t.2.2.1.cap,.slice t.2.2.2.1.ptr t.2.2.2.1.len t.2.2.2.1.cap] fun h5=>K t t1 t2 b h5) h :=
  ZzH (fun _ hk'=>ZmY ht hh hk') hk
end Go.Proofs.YtpjbjdheeemdiaaGreatDoor
namespace Go.Proofs.YtpjbjdheeemdiaaGreatDoor
open Go Go.Fw Go.Js
end Go.Proofs.YtpjbjdheeemdiaaGreatDoor
namespace Go.Proofs.YtpjbjdheeemdiaaGreatDoor
open Go Go.Fw Go.Lib
theorem Zow {P:Program} {w:World} {t:TypeId} {ms:Array (String × TypeId)} {cs:List Value} {nm:String} {d:DataW Unit} {p:List MemPlace} {fuel:Nat}
    (hu:P.underlying t=some (.interface ms)) (h:DataW.trod (fun _=>()) P w 0 (fun _=>true) false fuel t cs=some (.iface nm d,p)):∃ u v,cs=[.iface u v]:=by
  cases fuel with
  | zero=>simp [DataW.trod] at h
  | succ fuel =>
    unfold DataW.trod at h
    rw [hu] at h
    split at h<;>simp_all
theorem Zqq {w:World} {n:String} {g:Nat} {t e:TypeId} {m:Nat} {k:IntKind} {zs:List Int} (hg:Tryz.prog.globalNamed n=some g) (hty:(Tryz.prog.globals[g]?).map (·.type)=some t)
    (ht:Tryz.prog.underlying t=some (.array m e)) (he:Tryz.prog.underlying e=some (.int k)) (hce:Tryz.prog.cellsOf e=1) (hct:Tryz.prog.cellsOf t=m) (h:VarReads Tryz.prog w n (tabData k zs)):TabIs Tryz.prog w n k zs:=by
  obtain ⟨g',t',cs,fuel,p,hg',ht',hvar,hd⟩:=h
  obtain rfl:=Option.some.inj (hg.symm.trans hg')
  obtain rfl:=Option.some.inj (hty.symm.trans ht')
  unfold TabIs
  rw [hvar,<- cells_of_tab ht he hce hct hd]
theorem ZzW:Rows.laid_unicode_utf8_first=firstData:=by kernel_rfl
theorem Zyo:(Rows.laid_unicode_utf8_acceptRanges:DataW Unit)=acceptData:=by kernel_rfl
theorem ZEZ:(Rows.laid_internal_strconv_uint64pow10:DataW Unit)=tabData .u64 pow10Tab:=by kernel_rfl
theorem Zni:Tryz.prog.globalNamed "unicode/utf8.first" = some 0:=by kernel_rfl
theorem ZrN:Tryz.prog.globalNamed "unicode/utf8.acceptRanges" = some 1:=by kernel_rfl
theorem Zzq:Tryz.prog.globalNamed "internal/strconv.uint64pow10" = some 6:=by kernel_rfl
theorem ZtJ:Tryz.prog.globalNamed "strconv.ErrRange" = some 5:=by kernel_rfl
theorem Zy9:Tryz.prog.globalNamed "strconv.ErrSyntax" = some 4:=by kernel_rfl
theorem Zua:(Tryz.prog.globals[0]?).map (·.type)=some 271:=by kernel_rfl
theorem ZrM:(Tryz.prog.globals[1]?).map (·.type)=some 274:=by kernel_rfl
theorem Zzp:(Tryz.prog.globals[6]?).map (·.type)=some 332:=by kernel_rfl
theorem ZtI:(Tryz.prog.globals[5]?).map (·.type)=some 177:=by kernel_rfl
theorem Zy8:(Tryz.prog.globals[4]?).map (·.type)=some 177:=by kernel_rfl
theorem ZL6:Tryz.prog.cellsOf 5=1:=by kernel_rfl
theorem ZDF:Tryz.prog.cellsOf 271=256:=by kernel_rfl
theorem ZL7:Tryz.prog.cellsOf 182=1:=by kernel_rfl
theorem ZL8:Tryz.prog.cellsOf 332=20:=by kernel_rfl
theorem ZFB:Tryz.prog.cellsOf 273=2:=by kernel_rfl
theorem Zwi {w:World} (h3:VarReads Tryz.prog w "unicode/utf8.first" firstData) (h4:VarReads Tryz.prog w "unicode/utf8.acceptRanges" acceptData):Lib.Utf8Tabs 0 1 w:=by
  refine ⟨fun c hc=>?_,fun i hi=>?_⟩
  ·have hT:=Zqq Zni Zua Tryz.underlying271 Tryz.underlying5 ZL6 ZDF h3
   rw [hT.cell Zni c (by simp [firstTab];omega)]
   simp [firstTab,List.getD,hc]
  ·obtain ⟨g,t,cs,fuel,p,hg,hty,hvar,hd⟩:=h4
   obtain rfl:=Option.some.inj (ZrN.symm.trans hg)
   obtain rfl:=Option.some.inj (ZrM.symm.trans hty)
   obtain ⟨fuel',d,q,hdi,he⟩:=array_elem Tryz.underlying274 hd i hi
   simp only [Awz,List.getElem?_range hi,Aqx,Awh] at hdi
   subst hdi
   rw [ZFB] at he
   have hcs:=ints_of_struct Tryz.underlying273 (fun j f hj=>by
     match j,hj with
     | 0,hj=>simp at hj;subst hj;exact ⟨Tryz.underlying5,rfl,ZL6⟩
     | 1,hj=>simp at hj;subst hj;exact ⟨Tryz.underlying5,rfl,ZL6⟩
     | j+2,hj=>simp at hj) (by rw [ZFB];rfl) he
   have e0:=congrArg (·[0]?) hcs
   have e1:=congrArg (·[1]?) hcs
   simp only [Aqf,Aqg] at e0 e1
   constructor
   ·rw [World.var?_cell hg hvar (2*i),<- Axr]
    simpa [Azd] using e0
   ·rw [World.var?_cell hg hvar (2*i+1),<- Axr]
    simpa [Azd] using e1
theorem Zqc {w:World} {n nm:String} {g:Nat} {d:DataW Unit} (hg:Tryz.prog.globalNamed n=some g) (hty:(Tryz.prog.globals[g]?).map (·.type)=some 177) (h:VarReads Tryz.prog w n (.iface nm d)):∃ t p,w.cell? ⟨g,0,none⟩=some (.iface t p):=by
  obtain ⟨g',t',cs,fuel,p,hg',ht',hvar,hd⟩:=h
  obtain rfl:=Option.some.inj (hg.symm.trans hg')
  obtain rfl:=Option.some.inj (hty.symm.trans ht')
  obtain ⟨u,v,e⟩:=Zow Tryz.underlying177 hd
  refine ⟨u,v,?_⟩
  rw [World.var?_cell hg hvar 0,<- Axr,e];rfl
theorem Zxe:((begin Tryz.prog (fun _ _=>0) default).world.heap[2]?).bind Obj.row?=some (#[.int .i64 0],3):=by kernel_rfl
theorem Zrh:Tryz.prog.buildable 3=true:=by kernel_rfl
theorem ZtW:Tryz.prog.cellTypes Tryz.prog.depth 3=some [3]:=by kernel_rfl
theorem Ztv:(begin Tryz.prog (fun _ _=>0) default).world.heap.size=14:=by kernel_rfl
theorem Zkh:Tryz.prog.globals.size=9:=by kernel_rfl
end Go.Proofs.YtpjbjdheeemdiaaGreatDoor
namespace Go.Proofs.YtpjbjdheeemdiaaGreatDoor
open Go Go.Fw
section
variable {H:Type} {enc:TypeId × Value->H}
end
theorem ZLD {n:Int} (h:(Lit.int .u8 n).wf=true):0<=n/\n<256:=by
  simp only [Lit.wf,Awn,decide_eq_true_eq] at h
  have h1:IntKind.u8.min=0:=by decide
  have h2:IntKind.u8.max=255:=by decide
  omega
theorem ZEE {n:Int} (h:(Lit.int .i64 n).wf=true) : -9223372036854775808<=n/\n<9223372036854775808:=by
  simp only [Lit.wf,Awn,decide_eq_true_eq] at h
  have h1:IntKind.i64.min = -9223372036854775808:=by decide
  have h2:IntKind.i64.max=9223372036854775807:=by decide
  omega
end Go.Proofs.YtpjbjdheeemdiaaGreatDoor
namespace Go.Proofs.YtpjbjdheeemdiaaGreatDoor
open Go Go.Fw Go.Js
end Go.Proofs.YtpjbjdheeemdiaaGreatDoor
namespace Go.Js
open Go
end Go.Js
namespace Go.Proofs.YtpjbjdheeemdiaaGreatDoor
open Go Go.Fw Go.Js
end Go.Proofs.YtpjbjdheeemdiaaGreatDoor
