/- An argument that is rules. -/
import Derived.Test.YtpjbjdheeemdiaaGreatDoorPa15
set_option linter.unusedVariables false
set_option linter.unusedSimpArgs false
namespace Go.Js
open Go
def FlowP.rng (f:FlowP):Prop:=Zhv f.cnt/\f.strat<256/\f.shape<256/\Zhv f.warm/\Zhv f.queue/\Zhv f.id
def Yx.rng (f:Yx):Prop:=f.grade<256/\Zhv f.cnt/\Zhv f.slow/\Zhv f.least/\Zhv f.window/\Zhv f.recover
def Zew.rng (f:Zew):Prop:=Zhv f.index/\Zhv f.cnt/\Zhv f.secs/\∀ p,p∈f.items->Zhv p.2
def Y4.rng (f:Y4):Prop:=Zhv f.qps/\Zhv f.threads/\Zhv f.rt/\Zhv f.load/\Zhv f.cpu
def RulesP.rng (r:RulesP):Prop:=(∀ f,f∈r.fl->f.rng)/\(∀ f,f∈r.br->f.rng)/\(∀ f,f∈r.ho->f.rng)/\∀ f,f∈r.sy->f.rng
def FlowP.wt (f:FlowP):Nat:=1+f.res.length+f.org.length+f.ref.length
def Yx.wt (f:Yx):Nat:=1+f.res.length
def Zez (p:BL × Int):Nat:=1+p.1.length
def Zew.wt (f:Zew):Nat:=1+f.res.length+(f.items.map Zez).sum
def Zgy (t:BL):Nat:=1+t.length
def ZaI.wt (f:ZaI):Nat:=1+f.res.length+(f.origins.map Zgy).sum
def RulesP.wt (r:RulesP):Nat:=(r.fl.map FlowP.wt).sum+(r.br.map Yx.wt).sum+(r.ho.map Zew.wt).sum+(r.sy.map fun _=>1).sum+(r.li.map ZaI.wt).sum
end Go.Js
namespace Go.Proofs.YtpjbjdheeemdiaaGreatDoor
open Go Go.Fw Go.Js Go.ChangeShapes Go.WideShapes
def StT (P:Program) (t:TypeId) (tys:List TypeId):Prop:=∃ fs:Array Field,P.underlying t=some (.struct fs)/\fs.toList.map (fun f=>(f.type,f.offset))=tys.zipIdx/\P.cellsOf t=tys.length
section
variable {H:Type} {enc:TypeId × Value->H} {P:Program} {w:World} {base:Nat} {spare:Nat->Bool} {held:Bool}
def ZCE (f:TypeId->Value->Option (DataW H × List MemPlace)):List TypeId->List Value->List (DataW H × List MemPlace)->Prop
  | [],[],[]=>True
  | u::us,c::cs,x::xs=>f u c=some x/\ZCE f us cs xs
  | _,_,_=>False
theorem ZCE.inv {f:TypeId->Value->Option (DataW H × List MemPlace)} {u:TypeId} {us:List TypeId} {cs:List Value} {xs:List (DataW H × List MemPlace)} (h:ZCE f (u::us) cs xs):∃ c a x b,cs=c::a/\xs=x::b/\f u c=some x/\ZCE f us a b:=by
  match cs,xs,h with
  | c::cs,x::xs,h=>exact ⟨c,cs,x,xs,rfl,rfl,h.1,h.2⟩
theorem ZCE.nil {f:TypeId->Value->Option (DataW H × List MemPlace)} {cs:List Value} {xs:List (DataW H × List MemPlace)} (h:ZCE f [] cs xs):cs=[]/\xs=[]:=by
  match cs,xs,h with
  | [],[],_=>exact ⟨rfl,rfl⟩
theorem ZzP {f:TypeId->Value->Option (DataW H × List MemPlace)}:∀ (tys:List TypeId) (cs:List Value) (xs:List (DataW H × List MemPlace)),cs.length=tys.length->xs.length=tys.length ->
    (∀ (i:Nat) u c x,tys[i]?=some u->cs[i]?=some c->xs[i]?=some x->f u c=some x)->ZCE f tys cs xs
  | [],[],[],_,_,_=>trivial
  | u::us,c::cs,x::xs,e,g,h=>⟨h 0 u c x rfl rfl rfl,ZzP us cs xs (by simpa using e) (by simpa using g) fun i u c x a b d=>h (i+1) u c x (by simpa using a) (by simpa using b) (by simpa using d)⟩
  | [],_::_,_,h,_,_=>by simp at h
  | [],[],_::_,_,h,_=>by simp at h
  | _::_,[],_,h,_,_=>by simp at h
  | _::_,_::_,[],_,h,_=>by simp at h
theorem fieldsOf {t:TypeId} {tys:List TypeId} {fuel:Nat} {cs:List Value} {x:DataW H × List MemPlace} (st:StT P t tys) (j:∀ u,u∈tys->P.cellsOf u=1) (h:DataW.trod enc P w base spare held fuel t cs=some x) :
    ∃ (n:Nat) (xs:List (DataW H × List MemPlace)),ZCE (fun u c=>DataW.trod enc P w base spare held n u [c]) tys cs xs/\Rows.uptoBulk x.1=Rows.uptoBulkAll (xs.map (·.1))+1:=by
  obtain ⟨fs,ht,g,o⟩:=st
  obtain ⟨xs,n,rfl,rfl,hlen,k,e⟩:=DataW.trod_struct ht h
  have l:fs.size=tys.length:=by
    have:=congrArg List.length g
    simpa using this
  refine ⟨n,xs,ZzP tys cs xs (by omega) (by omega) fun i u c x a b d=>?_,by simp only [Rows.uptoBulk]⟩
  obtain ⟨f,g1,g2,g3⟩:=ZFe g (i:=i) (p:=(u,i)) (by rw [List.getElem?_zipIdx,a];simp)
  have:=e i f g1
  rw [g2,g3,j u (Axq a),d] at this
  rw [<- this]
  congr 1
  obtain ⟨m,rfl⟩:=Azl.1 b
  rw [Ayl m]
  rfl
theorem ZEm {n:Nat} {ts:TypeId} {c:Value} {x:DataW H × List MemPlace} (ht:P.underlying ts=some .string) (h:DataW.trod enc P w base spare held n ts [c]=some x):∃ s:BL,c=sV s/\Rows.uptoBulk x.1=Rows.uptoBulk (.lit (.string s):DataW H):=by
  obtain ⟨s,a,b,_⟩:=DataW.trod_string ht h
  simp at a
  subst a
  exact ⟨s.data.toList,rfl,by rw [b]⟩
theorem ZqY {n:Nat} {ti:TypeId} {c:Value} {x:DataW H × List MemPlace} (ht:P.underlying ti=some (.int .i64)) (h:DataW.trod enc P w base spare held n ti [c]=some x):∃ s:Int,c=i64 s/\Zhv s:=by
  obtain ⟨s,a,d,b⟩:=DataW.trod_int ht h
  simp at a
  subst a
  have:=ZGi b
  exact ⟨s,rfl,by unfold Zhv;omega⟩
theorem tU8 {n:Nat} {ti:TypeId} {c:Value} {x:DataW H × List MemPlace} (ht:P.underlying ti=some (.int .u8)) (h:DataW.trod enc P w base spare held n ti [c]=some x):∃ s:Nat,c=i8 s/\s<256:=by
  obtain ⟨s,a,d,b⟩:=DataW.trod_int ht h
  simp at a
  subst a
  have:=ZNk b
  exact ⟨s.toNat,by unfold i8;rw [Axf this.1],by omega⟩
theorem ZAF {n:Nat} {ti:TypeId} {c:Value} {x:DataW H × List MemPlace} (ht:P.underlying ti=some .bool) (h:DataW.trod enc P w base spare held n ti [c]=some x):∃ s:Bool,c = .bool s:=by
  obtain ⟨s,a,b⟩:=DataW.trod_bool ht h
  simp at a
  exact ⟨s,a⟩
theorem tSl {u e:TypeId} {n:Nat} {c:Value} {y:DataW H × List MemPlace} (hu:P.underlying u=some (.slice e)) (f:DataW.trod enc P w base spare held n u [c]=some y):∃ s:Sl,c=slV s:=by
  rcases Deep.open_slice hu f with ⟨a,_⟩ | ⟨g,b,d,m,h,D,i,a,_⟩
  ·simp at a;exact ⟨⟨none,0,0⟩,a⟩
  ·simp at a;exact ⟨⟨some g,b,d⟩,a⟩
theorem ZgJ (s:BL):s.length+1<=Rows.uptoBulk (.lit (.string s):DataW H):=by
  simp only [Rows.uptoBulk];omega
structure TyR (P:Program) (tR tF tB tH tY tL tI ts tb ti tsg tsh tg sF sB sH sY sL sI sT:TypeId):Prop where
  R:StT P tR [sF,sB,sH,sY,sL]
  F:StT P tF [ts,ts,tb,ti,tsg,ts,tsh,ti,ti,tb,ti,tb]
  B:StT P tB [ts,tg,ti,ti,ti,ti,ti]
  H:StT P tH [ts,ti,ti,ti,sI]
  Y:StT P tY [ti,ti,ti,ti,ti]
  L:StT P tL [ts,tb,sT]
  I:StT P tI [ts,ti]
  s:P.underlying ts=some .string
  b:P.underlying tb=some .bool
  i:P.underlying ti=some (.int .i64)
  sg:P.underlying tsg=some (.int .u8)
  sh:P.underlying tsh=some (.int .u8)
  g:P.underlying tg=some (.int .u8)
  lF:P.underlying sF=some (.slice tF)
  lB:P.underlying sB=some (.slice tB)
  lH:P.underlying sH=some (.slice tH)
  lY:P.underlying sY=some (.slice tY)
  lL:P.underlying sL=some (.slice tL)
  lI:P.underlying sI=some (.slice tI)
  lT:P.underlying sT=some (.slice ts)
  one:([ts,tb,ti,tsg,tsh,tg,sF,sB,sH,sY,sL,sI,sT].all fun u=>P.cellsOf u ==1)=true
variable {tR tF tB tH tY tL tI ts tb ti tsg tsh tg sF sB sH sY sL sI sT:TypeId}
theorem TyR.o (T:TyR P tR tF tB tH tY tL tI ts tb ti tsg tsh tg sF sB sH sY sL sI sT) {tys:List TypeId} (h:∀ u,u∈tys->u∈[ts,tb,ti,tsg,tsh,tg,sF,sB,sH,sY,sL,sI,sT]):∀ u,u∈tys->P.cellsOf u=1:=fun u hu=>by
  simpa using Axc.1 T.one u (h u hu)
theorem ZBP (T:TyR P tR tF tB tH tY tL tI ts tb ti tsg tsh tg sF sB sH sY sL sI sT) {fuel:Nat} {cs:List Value} {x:DataW H × List MemPlace} (h:DataW.trod enc P w base spare held fuel tF cs=some x):∃ a:FlowP,cs=Zd5 a/\a.rng/\a.wt<=16*Rows.uptoBulk x.1:=by
  obtain ⟨n,xs,c,p⟩:=fieldsOf T.F (T.o fun u hu=>by simp only [Awr] at hu ⊢;rcases hu with h | h | h | h | h | h | h | h | h | h | h | h | h<;>simp_all) h
  obtain ⟨_,cs,Q,xs,rfl,rfl,q,c⟩:=c.inv
  obtain ⟨_,cs,R,xs,rfl,rfl,r,c⟩:=c.inv
  obtain ⟨_,cs,S,xs,rfl,rfl,t,c⟩:=c.inv
  obtain ⟨_,cs,U,xs,rfl,rfl,v,c⟩:=c.inv
  obtain ⟨_,cs,V,xs,rfl,rfl,y,c⟩:=c.inv
  obtain ⟨_,cs,W,xs,rfl,rfl,z,c⟩:=c.inv
  obtain ⟨_,cs,X,xs,rfl,rfl,A,c⟩:=c.inv
  obtain ⟨_,cs,Y,xs,rfl,rfl,B,c⟩:=c.inv
  obtain ⟨_,cs,Z,xs,rfl,rfl,C,c⟩:=c.inv
  obtain ⟨_,cs,D,xs,rfl,rfl,d,c⟩:=c.inv
  obtain ⟨_,cs,E,xs,rfl,rfl,e,c⟩:=c.inv
  obtain ⟨_,cs,G,xs,rfl,rfl,f,c⟩:=c.inv
  obtain ⟨rfl,rfl⟩:=c.nil
  obtain ⟨l,rfl,b1⟩:=ZEm T.s q
  obtain ⟨a2,rfl,b2⟩:=ZEm T.s r
  obtain ⟨a3,rfl⟩:=ZAF T.b t
  obtain ⟨a4,rfl,I⟩:=ZqY T.i v
  obtain ⟨a5,rfl,J⟩:=tU8 T.sg y
  obtain ⟨m,rfl,b6⟩:=ZEm T.s z
  obtain ⟨K,rfl,L⟩:=tU8 T.sh A
  obtain ⟨M,rfl,N⟩:=ZqY T.i B
  obtain ⟨a9,rfl,O⟩:=ZqY T.i C
  obtain ⟨g,rfl⟩:=ZAF T.b d
  obtain ⟨j,rfl,k⟩:=ZqY T.i e
  obtain ⟨a12,rfl⟩:=ZAF T.b f
  refine ⟨⟨l,a2,a3,a4,a5,m,K,M,a9,g,j,a12⟩,rfl,⟨I,J,L,N,O,k⟩,?_⟩
  have l1:=ZgJ (H:=H) l
  have l2:=ZgJ (H:=H) a2
  have l6:=ZgJ (H:=H) m
  simp only [Awo,Rows.uptoBulkAll] at p
  simp only [FlowP.wt]
  omega
theorem ZzN (T:TyR P tR tF tB tH tY tL tI ts tb ti tsg tsh tg sF sB sH sY sL sI sT) {fuel:Nat} {cs:List Value} {x:DataW H × List MemPlace} (h:DataW.trod enc P w base spare held fuel tB cs=some x):∃ a:Yx,cs=Zcu a/\a.rng/\a.wt<=16*Rows.uptoBulk x.1:=by
  obtain ⟨n,xs,b,d⟩:=fieldsOf T.B (T.o fun u hu=>by simp only [Awr] at hu ⊢;rcases hu with h | h | h | h | h | h | h | h<;>simp_all) h
  obtain ⟨_,cs,D,xs,rfl,rfl,e,b⟩:=b.inv
  obtain ⟨_,cs,E,xs,rfl,rfl,f,b⟩:=b.inv
  obtain ⟨_,cs,F,xs,rfl,rfl,j,b⟩:=b.inv
  obtain ⟨_,cs,G,xs,rfl,rfl,k,b⟩:=b.inv
  obtain ⟨_,cs,I,xs,rfl,rfl,l,b⟩:=b.inv
  obtain ⟨_,cs,J,xs,rfl,rfl,m,b⟩:=b.inv
  obtain ⟨_,cs,K,xs,rfl,rfl,p,b⟩:=b.inv
  obtain ⟨rfl,rfl⟩:=b.nil
  obtain ⟨c,rfl,L⟩:=ZEm T.s e
  obtain ⟨a2,rfl,q⟩:=tU8 T.g f
  obtain ⟨a3,rfl,r⟩:=ZqY T.i j
  obtain ⟨a4,rfl,t⟩:=ZqY T.i k
  obtain ⟨a5,rfl,v⟩:=ZqY T.i l
  obtain ⟨y,rfl,z⟩:=ZqY T.i m
  obtain ⟨A,rfl,C⟩:=ZqY T.i p
  refine ⟨⟨c,a2,a3,a4,a5,y,A⟩,rfl,⟨q,r,t,v,z,C⟩,?_⟩
  have M:=ZgJ (H:=H) c
  simp only [Awo,Rows.uptoBulkAll] at d
  simp only [Yx.wt]
  omega
theorem ZwB (T:TyR P tR tF tB tH tY tL tI ts tb ti tsg tsh tg sF sB sH sY sL sI sT) {fuel:Nat} {cs:List Value} {x:DataW H × List MemPlace} (h:DataW.trod enc P w base spare held fuel tY cs=some x):∃ a:Y4,cs=ZbG a/\a.rng/\1<=16*Rows.uptoBulk x.1:=by
  obtain ⟨n,xs,b,r⟩:=fieldsOf T.Y (T.o fun u hu=>by simp only [Awr] at hu ⊢;rcases hu with h | h | h | h | h | h<;>simp_all) h
  obtain ⟨_,cs,s,xs,rfl,rfl,c,b⟩:=b.inv
  obtain ⟨_,cs,t,xs,rfl,rfl,d,b⟩:=b.inv
  obtain ⟨_,cs,v,xs,rfl,rfl,e,b⟩:=b.inv
  obtain ⟨_,cs,y,xs,rfl,rfl,f,b⟩:=b.inv
  obtain ⟨_,cs,z,xs,rfl,rfl,g,b⟩:=b.inv
  obtain ⟨rfl,rfl⟩:=b.nil
  obtain ⟨j,rfl,k⟩:=ZqY T.i c
  obtain ⟨a2,rfl,l⟩:=ZqY T.i d
  obtain ⟨a3,rfl,m⟩:=ZqY T.i e
  obtain ⟨a4,rfl,p⟩:=ZqY T.i f
  obtain ⟨a5,rfl,q⟩:=ZqY T.i g
  exact ⟨⟨j,a2,a3,a4,a5⟩,rfl,⟨k,l,m,p,q⟩,by omega⟩
theorem ZBO (T:TyR P tR tF tB tH tY tL tI ts tb ti tsg tsh tg sF sB sH sY sL sI sT) {fuel:Nat} {cs:List Value} {x:DataW H × List MemPlace} (h:DataW.trod enc P w base spare held fuel tI cs=some x):∃ a:BL × Int,cs=[sV a.1,i64 a.2]/\Zhv a.2/\Zez a<=16*Rows.uptoBulk x.1:=by
  obtain ⟨n,xs,b,d⟩:=fieldsOf T.I (T.o fun u hu=>by simp only [Awr] at hu ⊢;rcases hu with h | h | h<;>simp_all) h
  obtain ⟨_,cs,j,xs,rfl,rfl,e,b⟩:=b.inv
  obtain ⟨_,cs,k,xs,rfl,rfl,f,b⟩:=b.inv
  obtain ⟨rfl,rfl⟩:=b.nil
  obtain ⟨c,rfl,l⟩:=ZEm T.s e
  obtain ⟨a2,rfl,g⟩:=ZqY T.i f
  refine ⟨(c,a2),rfl,g,?_⟩
  have m:=ZgJ (H:=H) c
  simp only [Awo,Rows.uptoBulkAll] at d
  simp only [Zez]
  omega
theorem ZFq (T:TyR P tR tF tB tH tY tL tI ts tb ti tsg tsh tg sF sB sH sY sL sI sT) {fuel:Nat} {cs:List Value} {x:DataW H × List MemPlace} (h:DataW.trod enc P w base spare held fuel tH cs=some x) :
    ∃ a:Sl × Zew,cs=ZlF a/\(a.2.rng/\ZHE w.heap (fun b=>b<sz w.heap) a)/\a.2.wt<=16*Rows.uptoBulk x.1:=by
  obtain ⟨n,xs,c,l⟩:=fieldsOf T.H (T.o fun u hu=>by simp only [Awr] at hu ⊢;rcases hu with h | h | h | h | h | h<;>simp_all) h
  obtain ⟨_,cs,J,xs,rfl,rfl,m,c⟩:=c.inv
  obtain ⟨_,cs,K,xs,rfl,rfl,q,c⟩:=c.inv
  obtain ⟨_,cs,L,xs,rfl,rfl,t,c⟩:=c.inv
  obtain ⟨_,cs,M,xs,rfl,rfl,v,c⟩:=c.inv
  obtain ⟨_,cs,z,xs,rfl,rfl,f,c⟩:=c.inv
  obtain ⟨rfl,rfl⟩:=c.nil
  obtain ⟨j,rfl,O⟩:=ZEm T.s m
  obtain ⟨a2,rfl,A⟩:=ZqY T.i q
  obtain ⟨a3,rfl,B⟩:=ZqY T.i t
  obtain ⟨a4,rfl,C⟩:=ZqY T.i v
  obtain ⟨D,rfl⟩:=tSl T.lI f
  obtain ⟨fs,E,F,d⟩:=T.I
  obtain ⟨G,⟨k,ip⟩,Q⟩:=Zh8 (α:=BL × Int) (g:=fun p=>[sV p.1,i64 p.2]) (n:=2) (Pa:=fun p=>Zhv p.2) (μ:=Zez) (N:=Rows.uptoBulk z.1) (fun _=>rfl) (by decide) T.lI d (fun {fuel cs y} _ h=>by
    obtain ⟨a,e,r,b⟩:=ZBO T h
    exact ⟨a,e,r,b⟩) (Aqo _) f
  refine ⟨(D,⟨j,a2,a3,a4,G⟩),rfl,⟨⟨A,B,C,ip⟩,k,Zkm k (by decide)⟩,?_⟩
  have R:=ZgJ (H:=H) j
  simp only [Awo,Rows.uptoBulkAll] at l
  simp only [Zew.wt]
  omega
theorem ZBN (T:TyR P tR tF tB tH tY tL tI ts tb ti tsg tsh tg sF sB sH sY sL sI sT) {fuel:Nat} {cs:List Value} {x:DataW H × List MemPlace} (h:DataW.trod enc P w base spare held fuel tL cs=some x) :
    ∃ a:Sl × ZaI,cs=Zgt a/\Zvp w.heap (fun b=>b<sz w.heap) a/\a.2.wt<=16*Rows.uptoBulk x.1:=by
  obtain ⟨n,xs,c,k⟩:=fieldsOf T.L (T.o fun u hu=>by simp only [Awr] at hu ⊢;rcases hu with h | h | h | h<;>simp_all) h
  obtain ⟨_,cs,r,xs,rfl,rfl,l,c⟩:=c.inv
  obtain ⟨_,cs,t,xs,rfl,rfl,m,c⟩:=c.inv
  obtain ⟨_,cs,p,xs,rfl,rfl,f,c⟩:=c.inv
  obtain ⟨rfl,rfl⟩:=c.nil
  obtain ⟨i,rfl,v⟩:=ZEm T.s l
  obtain ⟨a2,rfl⟩:=ZAF T.b m
  obtain ⟨j,rfl⟩:=tSl T.lT f
  obtain ⟨nl,⟨q,_⟩,nb⟩:=Zh8 (α:=BL) (g:=fun n=>[sV n]) (n:=1) (Pa:=fun _=>True) (μ:=Zgy) (N:=Rows.uptoBulk p.1) (fun _=>rfl) (by decide) T.lT (T.o (tys:=[ts]) (by simp) ts (by simp)) (fun {fuel cs y} _ h=>by
    obtain ⟨s,e,he,_⟩:=DataW.trod_string T.s h
    refine ⟨s.data.toList,by rw [e],trivial,?_⟩
    rw [he]
    have:=ZgJ (H:=H) s.data.toList
    simp only [Zgy]
    omega) (Aqo _) f
  have d:Row w.heap j 1 (nl.map sV):=by rw [<- Zzi];exact q
  refine ⟨(j,⟨i,a2,nl⟩),rfl,⟨d,Zkm d (by decide)⟩,?_⟩
  have z:=ZgJ (H:=H) i
  simp only [Awo,Rows.uptoBulkAll] at k
  simp only [ZaI.wt]
  omega
def Zak (z:VTR):List Value:=[slV z.1,slV z.2.1,slV z.2.2.1,slV z.2.2.2.1,slV z.2.2.2.2.1]
theorem ZzM (T:TyR P tR tF tB tH tY tL tI ts tb ti tsg tsh tg sF sB sH sY sL sI sT) {fuel:Nat} {cs:List Value} {x:DataW H × List MemPlace} (h:DataW.trod enc P w base spare held fuel tR cs=some x) :
    ∃ (z:VTR) (r:RulesP),cs=Zak z/\ZaB w.heap (fun b=>b<sz w.heap) z r/\r.rng/\r.wt<=16*Rows.uptoBulk x.1:=by
  obtain ⟨n,xs,c,A⟩:=fieldsOf T.R (T.o fun u hu=>by simp only [Awr] at hu ⊢;rcases hu with h | h | h | h | h | h<;>simp_all) h
  obtain ⟨_,cs,C,xs,rfl,rfl,d,c⟩:=c.inv
  obtain ⟨_,cs,D,xs,rfl,rfl,e,c⟩:=c.inv
  obtain ⟨_,cs,E,xs,rfl,rfl,i,c⟩:=c.inv
  obtain ⟨_,cs,G,xs,rfl,rfl,j,c⟩:=c.inv
  obtain ⟨_,cs,I,xs,rfl,rfl,k,c⟩:=c.inv
  obtain ⟨rfl,rfl⟩:=c.nil
  obtain ⟨s1,rfl⟩:=tSl T.lF d
  obtain ⟨s2,rfl⟩:=tSl T.lB e
  obtain ⟨J,rfl⟩:=tSl T.lH i
  obtain ⟨K,rfl⟩:=tSl T.lY j
  obtain ⟨M,rfl⟩:=tSl T.lL k
  haveI:Inhabited FlowP:=⟨⟨[],[],false,0,0,[],0,0,0,false,0,false⟩⟩
  haveI:Inhabited Yx:=⟨⟨[],0,0,0,0,0,0⟩⟩
  haveI:Inhabited Y4:=⟨⟨0,0,0,0,0⟩⟩
  haveI:Inhabited (Sl × Zew):=⟨(⟨none,0,0⟩,⟨[],0,0,0,[]⟩)⟩
  haveI:Inhabited (Sl × ZaI):=⟨(⟨none,0,0⟩,⟨[],false,[]⟩)⟩
  obtain ⟨f1,⟨l,O⟩,V⟩:=Zh8 (α:=FlowP) (g:=Zd5) (n:=12) (Pa:=FlowP.rng) (μ:=FlowP.wt) (N:=Rows.uptoBulk C.1) (fun _=>rfl) (by decide) T.lF T.F.choose_spec.2.2 (fun {fuel cs y} _ h=>ZBP T h) (Aqo _) d
  obtain ⟨f2,⟨m,Q⟩,W⟩:=Zh8 (α:=Yx) (g:=Zcu) (n:=7) (Pa:=Yx.rng) (μ:=Yx.wt) (N:=Rows.uptoBulk D.1) (fun _=>rfl) (by decide) T.lB T.B.choose_spec.2.2 (fun {fuel cs y} _ h=>ZzN T h) (Aqo _) e
  obtain ⟨f3,⟨q,s⟩,X⟩:=Zh8 (α:=Sl × Zew) (g:=ZlF) (n:=5) (Pa:=fun a=>a.2.rng/\ZHE w.heap (fun b=>b<sz w.heap) a) (μ:=fun a=>a.2.wt) (N:=Rows.uptoBulk E.1) (fun _=>rfl) (by decide) T.lH T.H.choose_spec.2.2 (fun {fuel cs y} _ h=>ZFq T h) (Aqo _) i
  obtain ⟨f4,⟨t,S⟩,Z⟩:=Zh8 (α:=Y4) (g:=ZbG) (n:=5) (Pa:=Y4.rng) (μ:=fun _=>1) (N:=Rows.uptoBulk G.1) (fun _=>rfl) (by decide) T.lY T.Y.choose_spec.2.2 (fun {fuel cs y} _ h=>ZwB T h) (Aqo _) j
  obtain ⟨f5,⟨v,U⟩,b5⟩:=Zh8 (α:=Sl × ZaI) (g:=Zgt) (n:=3) (Pa:=fun a=>Zvp w.heap (fun b=>b<sz w.heap) a) (μ:=fun a=>a.2.wt) (N:=Rows.uptoBulk I.1) (fun _=>rfl) (by decide) T.lL T.L.choose_spec.2.2 (fun {fuel cs y} _ h=>ZBN T h) (Aqo _) k
  refine ⟨(s1,s2,J,K,M,()),⟨f1,f2,f3.map (·.2),f4,f5.map (·.2)⟩,rfl,⟨⟨l,Zkm l (by decide)⟩,⟨m,Zkm m (by decide)⟩,⟨f3,rfl,⟨q,Zkm q (by decide)⟩,fun p hp=>(s p hp).2⟩,⟨t,Zkm t (by decide)⟩,⟨f5,rfl,⟨v,Zkm v (by decide)⟩,U⟩⟩,⟨O,Q,fun f c=>?_,S⟩,?_⟩
  ·obtain ⟨p,hp,rfl⟩:=Ayw.1 c
   exact (s p hp).1
  ·simp only [Awo,Azz,Rows.uptoBulkAll] at A
   simp only [RulesP.wt,Azq]
   have e3:(f3.map (Zew.wt ∘ fun x=>x.2)).sum=(f3.map fun a=>a.2.wt).sum:=rfl
   have e5:(f5.map (ZaI.wt ∘ fun x=>x.2)).sum=(f5.map fun a=>a.2.wt).sum:=rfl
   omega
end
end Go.Proofs.YtpjbjdheeemdiaaGreatDoor
namespace Go.Js
open Go
def Zn1:List (List Nat)->Nat->Option Nat
  | [],_=>none
  | es::r,k=>if 256<es.length then some k else Zn1 r (k+1)
def ZFj:List (List Nat)->Nat->Option (Nat × Nat × Nat)
  | [],_=>none
  | es::r,k=>match Zct id es 0 with
    | some (i,e)=>some (k,i,e)
    | none=>ZFj r (k+1)
def Zq7 (gs:List (List Nat)):Nat × Nat × Nat:=match Zn1 gs 1 with
  | some k=>(k,0,5)
  | none=>(ZFj gs 1).getD (0,0,0)
def RulesP.errs (r:RulesP):List (List Nat):=[r.fl.map FlowP.err,r.br.map Yx.err,r.ho.map Zew.err,r.sy.map Y4.err,r.li.map ZaI.err]
theorem Zpb {α:Type} (f:α->Nat):∀ (l:List α) (i:Nat),Zct id (l.map f) i=Zct f l i
  | [],_=>rfl
  | a::l,i=>by
    simp only [Awo,Zct,id]
    rw [Zpb f l]
theorem ZpA (r:RulesP):r.whereE=Zq7 r.errs:=by
  unfold RulesP.whereE Zq7 RulesP.errs
  simp only [Zn1,ZFj,Ayx,Zpb]
  split
  ·rfl
  ·split
   ·rfl
   ·split
    ·rfl
    ·split
     ·rfl
     ·split
      ·rfl
      ·cases Zct FlowP.err r.fl 0 with
       | some p=>rfl
       | none=>cases Zct Yx.err r.br 0 with
         | some p=>rfl
         | none=>cases Zct Zew.err r.ho 0 with
           | some p=>rfl
           | none=>cases Zct Y4.err r.sy 0 with
             | some p=>rfl
             | none=>cases Zct ZaI.err r.li 0 with
               | some p=>rfl
               | none=>rfl
theorem ZoY {gs:List (List Nat)} {i k:Nat} {es:List Nat} (h:gs[i]?=some es):Zn1 (gs.drop i) k=if 256<es.length then some k else Zn1 (gs.drop (i+1)) (k+1):=by
  obtain ⟨a,rfl⟩:=Azl.1 h
  rw [Ayl a]
  rfl
theorem Zzo {gs:List (List Nat)} {i k:Nat} {es:List Nat} (h:gs[i]?=some es):ZFj (gs.drop i) k=match Zct id es 0 with
    | some (i,e)=>some (k,i,e)
    | none=>ZFj (gs.drop (i+1)) (k+1):=by
  obtain ⟨a,rfl⟩:=Azl.1 h
  rw [Ayl a]
  rfl
theorem Zni {es:List Nat} {i k e:Nat} (h:es[i]?=some e):Zct id (es.drop i) k=if e=0 then Zct id (es.drop (i+1)) (k+1) else some (k,e):=by
  obtain ⟨a,rfl⟩:=Azl.1 h
  rw [Ayl a]
  rfl
end Go.Js
namespace Go.Proofs.YtpjbjdheeemdiaaGreatDoor
open Go Go.Fw Go.Js
section
variable {h:Zc}
theorem Zb0 {α:Type} {c:α->List Value} {n:Nat} (e:∀ a,(c a).length=n) {l:List α} {x:Sl} (f:Row h x n (l.flatMap c)) (q:0<n) {i:Nat} {a:α} (g:l[i]?=some a) {k:Int} (r:k=i) {P:Nat->Nat->Prop}
    (s:∀ b o,(∀ m v,(c a)[m]?=some v->h.cell b (o+m)=some v)->P b o):Zdb x.ptr x.len k n P:=by
  have j:=f.len
  rw [Zfr e] at j
  have w:=Zy6 g
  have t:x.len=l.length:=Ava q j.symm
  rcases f.at_ with y | ⟨b,o,d,u⟩
  ·omega
  ·rw [d]
   refine Zm7 (n:=i) r (by omega) (s b _ fun m v p=>?_)
   have hm:m<n:=by rw [<- e a];exact Zy6 p
   have:=ZiC u (i:=i*n+m) (by rw [Znh e l i m a g hm];exact p)
   rw [<- Aqh] at this
   exact this
theorem ZaJ {α:Type} {c:α->List Value} {n:Nat} (d:∀ a,(c a).length=n) {l:List α} {x:Sl} (e:Row h x n (l.flatMap c)) (f:0<n):x.len=l.length:=by
  have b:=e.len
  rw [Zfr d] at b
  exact Ava f b.symm
def ZFJ (a:Value) (i:Int) (K:Int->HP) (h:Zc):Prop :=
  (exG a (fun c:Option Addr × Unit=> .func (.func 217) #[] ⟨[.pointer c.1]⟩) fun c=>Zb8 i c.1 K h)\/(
  (exG a (fun c:Option Addr × Unit=> .func (.func 219) #[] ⟨[.pointer c.1]⟩) fun c=>Zb7 i c.1 K h)\/(
  (exG a (fun c:Option Addr × Unit=> .func (.func 221) #[] ⟨[.pointer c.1]⟩) fun c=>Zb6 i c.1 K h)\/(
  (exG a (fun c:Option Addr × Unit=> .func (.func 223) #[] ⟨[.pointer c.1]⟩) fun c=>Zb5 i c.1 K h)\/(
  (exG a (fun c:Option Addr × Unit=> .func (.func 225) #[] ⟨[.pointer c.1]⟩) fun c=>Zb4 i c.1 K h)\/False))))
def RulesP.fit (r:RulesP):Prop:=(∀ f,f∈r.fl->f.res.length<9223372036854775807/\f.org.length<9223372036854775807/\f.ref.length<9223372036854775807)/\(∀ f,f∈r.br->f.res.length<9223372036854775807) /\
  (∀ f,f∈r.ho->f.res.length<9223372036854775807/\f.items.length<=1000000000000)/\∀ f,f∈r.li->f.res.length<9223372036854775807/\∀ n,n∈f.origins->n.length<9223372036854775807
theorem Zsf {α:Type} {f:α->Nat} {l:List α} {j e:Nat} (h:(l.map f)[j]?=some e):∃ a,l[j]?=some a/\e=f a:=by
  rw [Awz,Ayc] at h
  obtain ⟨a,b,c⟩:=h
  exact ⟨a,b,c.symm⟩
abbrev clG (F a:Nat):Value:= .func (.func F) #[] #[.pointer (At a)]
theorem ZE3 {z:VTR} {r:RulesP} {S:Nat->Prop} (k:ZaB h S z r) (l:Go.Proofs.YtpjbjdheeemdiaaGreatDoor.RulesP.fit r) {d:Nat} {T:TypeId} (c:obj h d=some (.cells (Zak z).toArray T (0,0))) {j e:Nat} (he:(r.fl.map FlowP.err)[j]?=some e) {K:Int->HP} (m:∀ h',Ext h h'->K e h') :
    ZFJ (clG 217 d) j K h:=by
  obtain ⟨a,i,rfl⟩:=Zsf he
  refine .inl ⟨(At d,()),rfl,?_⟩
  unfold Zb8 Zfo
  refine Za (Zo (rL (s:=z.1) (Zb c rfl) (Zb0 (c:=Zd5) (fun _=>rfl) k.fl.1 (by decide) i rfl fun b o g=>?_)))
  refine ⟨_,g 0 _ rfl,_,g 1 _ rfl,_,g 2 _ rfl,_,g 3 _ rfl,_,g 4 _ rfl,_,g 5 _ rfl,_,g 6 _ rfl,_,g 7 _ rfl,_,g 8 _ rfl,_,g 9 _ rfl,_,g 10 _ rfl,_,g 11 _ rfl,?_⟩
  exact Zsa (f:=a) (l.1 a (Axq i)) fun h' n=>Za (m h' n)
theorem ZE2 {z:VTR} {r:RulesP} {S:Nat->Prop} (k:ZaB h S z r) (l:Go.Proofs.YtpjbjdheeemdiaaGreatDoor.RulesP.fit r) {d:Nat} {T:TypeId} (c:obj h d=some (.cells (Zak z).toArray T (0,0))) {j e:Nat} (he:(r.br.map Yx.err)[j]?=some e) {K:Int->HP} (m:∀ h',Ext h h'->K e h') :
    ZFJ (clG 219 d) j K h:=by
  obtain ⟨a,i,rfl⟩:=Zsf he
  refine .inr (.inl ⟨(At d,()),rfl,?_⟩)
  unfold Zb7 Zfn
  refine Za (Zo (rL (s:=z.2.1) (Zb c rfl) (Zb0 (c:=Zcu) (fun _=>rfl) k.br.1 (by decide) i rfl fun b o g=>?_)))
  refine ⟨_,g 0 _ rfl,_,g 1 _ rfl,_,g 2 _ rfl,_,g 3 _ rfl,_,g 4 _ rfl,_,g 5 _ rfl,_,g 6 _ rfl,?_⟩
  exact ZqQ (f:=a) (l.2.1 a (Axq i)) fun h' n=>Za (m h' n)
theorem ZE1 {z:VTR} {r:RulesP} {S:Nat->Prop} (m:ZaB h S z r) (n:Go.Proofs.YtpjbjdheeemdiaaGreatDoor.RulesP.fit r) {k:Nat} {T:TypeId} (c:obj h k=some (.cells (Zak z).toArray T (0,0))) {j e:Nat} (he:(r.ho.map Zew.err)[j]?=some e) {K:Int->HP} (q:∀ h',Ext h h'->K e h') :
    ZFJ (clG 221 k) j K h:=by
  obtain ⟨a,d,rfl⟩:=Zsf he
  obtain ⟨hp,l,t,u⟩:=m.ho
  rw [<- l,Awz,Ayc] at d
  obtain ⟨p,d,rfl⟩:=d
  refine .inr (.inr (.inl ⟨(At k,()),rfl,?_⟩))
  unfold Zb6 Zfm
  refine Za (Zo (rL (s:=z.2.2.1) (Zb c rfl) (Zb0 (c:=ZlF) (fun _=>rfl) t.1 (by decide) d rfl fun b o g=>?_)))
  refine ⟨_,g 0 _ rfl,_,g 1 _ rfl,_,g 2 _ rfl,_,g 3 _ rfl,p.1,g 4 _ rfl,?_⟩
  have hm:=Axq d
  have i:=n.2.2.1 p.2 (by rw [<- l];exact Ayw.2 ⟨p,hm,rfl⟩)
  exact Ztt (f:=p.2) (x:=p.1) i.1 i.2 (u p hm).1 fun h' v=>Za (q h' v)
theorem ZE0 {z:VTR} {r:RulesP} {S:Nat->Prop} (i:ZaB h S z r) {d:Nat} {T:TypeId} (c:obj h d=some (.cells (Zak z).toArray T (0,0))) {j e:Nat} (he:(r.sy.map Y4.err)[j]?=some e) {K:Int->HP} (k:∀ h',Ext h h'->K e h') :
    ZFJ (clG 223 d) j K h:=by
  obtain ⟨a,l,rfl⟩:=Zsf he
  refine .inr (.inr (.inr (.inl ⟨(At d,()),rfl,?_⟩)))
  unfold Zb5 Zfl
  refine Za (Zo (rL (s:=z.2.2.2.1) (Zb c rfl) (Zb0 (c:=ZbG) (fun _=>rfl) i.sy.1 (by decide) l rfl fun b o g=>?_)))
  refine ⟨_,g 0 _ rfl,_,g 1 _ rfl,_,g 2 _ rfl,_,g 3 _ rfl,_,g 4 _ rfl,?_⟩
  exact ZnR (f:=a) fun h' m=>Za (k h' m)
theorem ZEZ {z:VTR} {r:RulesP} {S:Nat->Prop} (l:ZaB h S z r) (m:Go.Proofs.YtpjbjdheeemdiaaGreatDoor.RulesP.fit r) {i:Nat} {T:TypeId} (c:obj h i=some (.cells (Zak z).toArray T (0,0))) {j e:Nat} (he:(r.li.map ZaI.err)[j]?=some e) {K:Int->HP} (n:∀ h',Ext h h'->K e h') :
    ZFJ (clG 225 i) j K h:=by
  obtain ⟨a,d,rfl⟩:=Zsf he
  obtain ⟨v,k,q,t⟩:=l.li
  rw [<- k,Awz,Ayc] at d
  obtain ⟨p,d,rfl⟩:=d
  refine .inr (.inr (.inr (.inr (.inl ⟨(At i,()),rfl,?_⟩))))
  unfold Zb4 Zfk
  refine Za (Zo (rL (s:=z.2.2.2.2.1) (Zb c rfl) (Zb0 (c:=Zgt) (fun _=>rfl) q.1 (by decide) d rfl fun b o g=>?_)))
  refine ⟨_,g 0 _ rfl,_,g 1 _ rfl,p.1,g 2 _ rfl,?_⟩
  have hm:=Axq d
  exact ZrT (f:=p.2) (x:=p.1) (m.2.2.2 p.2 (by rw [<- k];exact Ayw.2 ⟨p,hm,rfl⟩)) (t p hm).1 fun h' u=>Za (n h' u)
def ZG6 (p:Nat × List Nat × Value):List Value:=[i8 p.1,i64 (p.2.1.length:Int),p.2.2]
def Zsz (r:RulesP) (a:Nat):List (Nat × List Nat × Value):=[(1,r.fl.map FlowP.err,clG 217 a),(2,r.br.map Yx.err,clG 219 a),(3,r.ho.map Zew.err,clG 221 a),(4,r.sy.map Y4.err,clG 223 a),(5,r.li.map ZaI.err,clG 225 a)]
theorem Ztu {z:VTR} {r:RulesP} {S:Nat->Prop} (b:ZaB h S z r) {K:Sl->HP}
    (g:∀ x d h',Ext h h'->obj h' d=some (.cells (Zak z).toArray 28 (0,0))->Row h' x 3 ((Zsz r d).flatMap ZG6)->K x h'):Zdr z K h:=by
  unfold Zdr ZgT
  refine YZ fun j k l E=>?_
  have a:obj j h.size=some (.cells (Zak z).toArray 28 (0,0)):=k
  refine rL (s:=z.1) (Zb a rfl) ⟨rfl,rL (s:=z.2.1) (Zb a rfl) ⟨rfl,rL (s:=z.2.2.1) (Zb a rfl) ⟨rfl,rL (s:=z.2.2.2.1) (Zb a rfl) ⟨rfl,rL (s:=z.2.2.2.2.1) (Zb a rfl) ⟨rfl,YZ fun m e f F=>?_⟩⟩⟩⟩⟩
  have o:=ZaJ (c:=Zd5) (n:=12) (fun _=>rfl) b.fl.1 (by decide)
  have p:=ZaJ (c:=Zcu) (n:=7) (fun _=>rfl) b.br.1 (by decide)
  have q:=ZaJ (c:=ZbG) (n:=5) (fun _=>rfl) b.sy.1 (by decide)
  obtain ⟨hp,t,u,G⟩:=b.ho
  obtain ⟨w,y,A,H⟩:=b.li
  have B:=ZaJ (c:=ZlF) (n:=5) (fun _=>rfl) u.1 (by decide)
  have C:=ZaJ (c:=Zgt) (n:=3) (fun _=>rfl) A.1 (by decide)
  have m3:hp.length=r.ho.length:=by rw [<- t];simp
  have m5:w.length=r.li.length:=by rw [<- y];simp
  rw [o,p,B,q,C,m3,m5] at e
  refine g _ h.size m (l.trans f) (Zn a f) ⟨rfl,Aqo _,by show 5<_;omega,.inr ⟨_,0,rfl,ZdE e fun i v D=>?_⟩⟩
  rw [Awb]
  simpa [Zsz,ZG6,i8,i64,Ayx] using D
theorem Zof {z:VTR} {r:RulesP} {S:Nat->Prop} (hr:ZaB h S z r) (hf:Go.Proofs.YtpjbjdheeemdiaaGreatDoor.RulesP.fit r) {K:Int->Int->Int->HP} (D:∀ h' (p:Nat × Nat × Nat),p=r.whereE->Ext h h'->K p.1 p.2.1 p.2.2 h'):ZbP z K h:=by
  unfold ZbP ZhS
  refine YZ fun h1 c1 e1 z1=>Za (Za (Za ?_))
  have P:obj h1 h.size=some (.cells (Zak z).toArray 28 (0,0)):=c1
  refine rL (s:=z.1) (Zb P rfl) (rL (s:=z.2.1) (Zb P rfl) (rL (s:=z.2.2.1) (Zb P rfl) (rL (s:=z.2.2.2.1) (Zb P rfl) (rL (s:=z.2.2.2.2.1) (Zb P rfl) (Ztu (z:=z) (hr.ext e1) fun x v G ag cg row=>?_)))))
  have d:=e1.trans ag
  have hx:x.len=5:=ZaJ (c:=ZG6) (n:=3) (fun _=>rfl) row (by decide)
  have ah:(Zsz r v).map (·.2.1)=r.errs:=rfl
  have E:∀ (i:Nat) p,(Zsz r v)[i]?=some p->p.1=i+1:=fun i p hp=>by
    match i,hp with
    | 0,hp=>cases hp;rfl
    | 1,hp=>cases hp;rfl
    | 2,hp=>cases hp;rfl
    | 3,hp=>cases hp;rfl
    | 4,hp=>cases hp;rfl
    | n+5,hp=>cases hp
  have C:∀ (i:Nat) p,(Zsz r v)[i]?=some p->r.errs[i]?=some p.2.1:=fun i p hp=>by rw [<- ah,Awz,hp];rfl
  have F:∀ (i:Nat) p,(Zsz r v)[i]?=some p->Ye p.2.2=true:=fun i p hp=>by
    have hm:=Axq hp
    simp only [Zsz,Awr,Azk,or_false] at hm
    rcases hm with rfl | rfl | rfl | rfl | rfl<;>rfl
  have H:∀ p,p∈Zsz r v->∀ {h':Zc} {j e:Nat} {K:Int->HP},Ext G h'->p.2.1[j]?=some e->(∀ Q,Ext h' Q->K e Q)->ZFJ p.2.2 j K h':=fun p hp h' j e K e' he k=>by
    have R:=hr.ext (d.trans e')
    have c:=Zn cg e'
    simp only [Zsz,Awr,Azk,or_false] at hp
    rcases hp with rfl | rfl | rfl | rfl | rfl
    ·exact ZE3 R hf c he k
    ·exact ZE2 R hf c he k
    ·exact ZE1 R hf c he k
    ·exact ZE0 R c he k
    ·exact ZEZ R hf c he k
  have aE:(Zsz r v).length=5:=rfl
  refine Zv (fun p h'=>Ext G h'/\∃ i:Nat,p.1=i/\i<=5/\Zn1 (r.errs.drop i) (i+1)=Zn1 r.errs 1) (fun p _=>(5 - p.1).toNat) ⟨Ext.refl _,0,rfl,Ayk _,rfl⟩ ?_
  rintro ⟨i_,u⟩ ai ⟨w,i,T,aj,U⟩
  dsimp only at T ⊢
  subst T
  refine Zq (fun V=>?_) fun W=>?_
  ·have I:i<(Zsz r v).length:=by omega
   obtain ⟨p,hp⟩:∃ p,(Zsz r v)[i]?=some p:=⟨(Zsz r v)[i],Ayb I⟩
   have y:=C i p hp
   have J:=E i p hp
   refine Zb0 (c:=ZG6) (fun _=>rfl) (row.ext w) (by decide) hp rfl fun b o g=>⟨_,g 0 _ rfl,_,g 1 _ rfl,_,g 2 _ rfl,YZ fun aG ak al aH=>ZfK ak (by show 3<=3;omega) (by show (true&&(true&&(Ye p.2.2&&true)))=true;rw [F i p hp];rfl) fun X Y an aI=>?_⟩
   have A:Ext ai X:=al.updS an fun j O=>by subst O;exact Aqo _
   have Z:=d.trans (w.trans A)
   refine rI (Zb Y rfl) (Zq (fun aJ=>rI (Zb Y rfl) (Za (Za (Za ?_)))) fun hle=>?_)
   ·rw [ZoY y,if_pos (by omega)] at U
    have:r.whereE=(i+1,0,5):=by rw [ZpA];unfold Zq7;rw [<- U]
    rw [J]
    exact D X (i+1,0,5) this.symm Z
   ·rw [ZoY y,if_neg (by omega)] at U
    rw [YA (by omega) (by omega)]
    exact ⟨⟨w.trans A,i+1,rfl,by omega,U⟩,by omega⟩
  ·have:i=5:=by omega
   subst this
   have f:Zn1 r.errs 1=none:=by rw [<- U];rfl
   have aA:=d.trans w
   refine Zv (fun p h'=>Ext G h'/\∃ i:Nat,p.1=i/\i<=5/\ZFj (r.errs.drop i) (i+1)=ZFj r.errs 1) (fun p _=>(5 - p.1).toNat) ⟨w,0,rfl,Ayk _,rfl⟩ ?_
   rintro ⟨i_,u⟩ aa ⟨L,i,T,aj,m⟩
   dsimp only at T ⊢
   subst T
   refine Zq (fun V=>?_) fun W=>Za (Za (Za ?_))
   ·have I:i<(Zsz r v).length:=by omega
    obtain ⟨p,hp⟩:∃ p,(Zsz r v)[i]?=some p:=⟨(Zsz r v)[i],Ayb I⟩
    have y:=C i p hp
    have J:=E i p hp
    have hm:=Axq hp
    refine Zb0 (c:=ZG6) (fun _=>rfl) (row.ext L) (by decide) hp rfl fun b o g=>⟨_,g 0 _ rfl,_,g 1 _ rfl,_,g 2 _ rfl,YZ fun aK ao aq aL=>ZfK ao (by show 3<=3;omega) (by show (true&&(true&&(Ye p.2.2&&true)))=true;rw [F i p hp];rfl) fun ab ad ar aM=>?_⟩
    have M:Ext aa ab:=aq.updS ar fun j O=>by subst O;exact Aqo _
    have l:=L.trans M
    have hlen:p.2.1.length<=256:=by
      have hn:∀ (gs:List (List Nat)) (k:Nat),Zn1 gs k=none->∀ es,es∈gs->es.length<=256:=by
        intro gs
        induction gs with
        | nil=>intro k _ es h;cases h
        | cons a gs ih =>
          intro k D es C
          simp only [Zn1] at D
          split at D
          ·cases D
          ·rcases Awr.1 C with rfl | h
           ·omega
           ·exact ih _ D es h
      exact hn _ _ f _ (Axq y)
    rw [Zzo y] at m
    refine rI (Zb ad rfl) (Zv (fun q h'=>Ext ab h'/\∃ j:Nat,q.1=j/\j<=p.2.1.length/\Zct id (p.2.1.drop j) j=Zct id p.2.1 0) (fun q _=>(p.2.1.length - q.1).toNat) ⟨Ext.refl _,0,rfl,Ayk _,rfl⟩ ?_)
    rintro ⟨j_,u⟩ aP ⟨B,j,O,aQ,t⟩
    dsimp only at O ⊢
    subst O
    have ae:=Zn ad B
    refine Zq (fun V=>Za ?_) fun W=>?_
    ·have au:j<p.2.1.length:=by omega
     obtain ⟨e,he⟩:∃ e,p.2.1[j]?=some e:=⟨p.2.1[j],Ayb au⟩
     refine rV (n:=p.2.2) (Zb ae rfl) ?_
     refine H p hm (l.trans B) he fun av N=>Za (Zar (fun aR=>?_) fun heq=>?_)
     ·have aw:=Zn ae N
      refine rI (Zb aw rfl) (Za (Za (Za ?_)))
      rw [Zni he,if_neg (by omega)] at t
      rw [<- t] at m
      have:r.whereE=(i+1,j,e):=by
        rw [ZpA]
        unfold Zq7
        rw [f,<- m]
        rfl
      rw [J]
      exact D av (i+1,j,e) this.symm (d.trans (l.trans (B.trans N)))
     ·rw [Zni he,if_pos (by omega)] at t
      rw [YA (by omega) (by omega)]
      exact ⟨⟨B.trans N,j+1,rfl,by omega,t⟩,by omega⟩
    ·have:j=p.2.1.length:=by omega
     subst this
     rw [Aym] at t
     rw [<- t] at m
     rw [YA (by omega) (by omega)]
     exact ⟨⟨l.trans B,i+1,rfl,by omega,m⟩,by omega⟩
   ·have:i=5:=by omega
    subst this
    have:r.whereE=(0,0,0):=by
      rw [ZpA]
      unfold Zq7
      rw [f,<- m]
      rfl
    exact D aa (0,0,0) this.symm (d.trans L)
end
end Go.Proofs.YtpjbjdheeemdiaaGreatDoor
namespace Go.Js
open Go
def MV.fits (N:Nat):MV->Prop
  | .t s=>s.length<=N
  | .ts l=>∀ s,s∈l->s.length<=N
  | .is l=>l.length<=N
  | _=>True
theorem MV.fits_mono {N M:Nat} (h:N<=M):∀ {x:MV},x.fits N->x.fits M
  | .t _,a=>Aqp a h
  | .ts _,a=>fun s c=>Aqp (a s c) h
  | .is _,a=>Aqp a h
  | .n _,_=>trivial
  | .b _,_=>trivial
  | .w _,_=>trivial
theorem ZlU {α β:Type} {f:α->Except Nat β}:∀ {l:List α} {r:List β},ZkH f l = .ok r->r.length=l.length/\∀ b,b∈r->∃ a,a∈l/\f a = .ok b
  | [],r,h=>by cases h;exact ⟨rfl,fun b d=>by cases d⟩
  | a::l,r,h=>by
    simp only [ZkH] at h
    split at h
    ·cases h
    ·rename_i y i
     split at h
     ·cases h
     ·rename_i ys g
      cases h
      obtain ⟨j,k⟩:=ZlU g
      refine ⟨by simp [j],fun b d=>?_⟩
      rcases Awr.1 d with rfl | d
      ·exact ⟨a,by simp,i⟩
      ·obtain ⟨c,m,e⟩:=k b d
       exact ⟨c,by simp [m],e⟩
theorem Zhs {α:Type} {f:JV->Except Nat α}:∀ {l:List JV} {i:Nat} {r:List α},Zap f l i = .ok r->∀ b,b∈r->∃ a,a∈l/\f a = .ok b
  | [],_,r,h=>by cases h;exact fun b d=>by cases d
  | a::l,i,r,h=>by
    simp only [Zap] at h
    split at h
    ·cases h
    ·rename_i y j
     split at h
     ·cases h
     ·rename_i ys g
      cases h
      intro b d
      rcases Awr.1 d with rfl | d
      ·exact ⟨a,by simp,j⟩
      ·obtain ⟨c,k,e⟩:=Zhs g b d
       exact ⟨c,by simp [k],e⟩
theorem ZxM (v:JV):v.t.length<=wV v:=by unfold wV;omega
theorem Zox (v:JV):pw v.sub<=wV v:=by unfold wV;omega
theorem ZvR {k:FK} {v:JV} {x:MV} (h:ZaR k v = .ok x):x.fits (wV v):=by
  cases k
  case items =>
    simp only [ZaR] at h
    split at h
    ·split at h
     ·rename_i l b
      cases h
      have:=(ZlU b).1
      rw [JL.list_len] at this
      have:=Zey v.sub
      have:=Zox v
      show l.length<=_
      omega
     ·cases h
    ·cases h
  all_goals simp only [ZaR,Zdn] at h
  case text=>split at h<;>cases h;exact ZxM v
  case num =>
    split at h
    ·split at h<;>cases h
     trivial
    ·cases h
  case yes =>
    split at h
    ·cases h;trivial
    ·split at h<;>cases h
     trivial
  case word =>
    split at h
    ·split at h<;>cases h
     trivial
    ·cases h
  case texts =>
    split at h
    ·split at h
     ·rename_i l b
      cases h
      intro s c
      obtain ⟨a,d,e⟩:=(ZlU b).2 s c
      unfold Zrz at e
      split at e<;>cases e
      have:=Zib d
      have:=ZxM a
      have:=Zox v
      omega
     ·cases h
    ·cases h
theorem Zk0 {F:ZzZ} {m0 m:List MV} {v:JV} (g:F.length=m0.length) (h:Xn ZaR F m0 v = .ok m) {j:Nat} {x:MV} (c:m[j]?=some x):m0[j]?=some x\/∃ a k w,F[j]?=some (a,k)/\w∈v.sub.list/\ZaR k w = .ok x:=by
  obtain ⟨_,o⟩:=(ZeD g).1 h
  by_cases d:∃ p k,p∈ZBV v/\Zbh p.1 F 0=some (j,k)
  ·obtain ⟨p,k,hp,b⟩:=d
   obtain ⟨l,n,y,e,i,f⟩:=o.each p hp
   rw [b] at e
   cases e
   rw [c] at f
   cases f
   exact .inr ⟨_,_,_,Y5 b,(List.of_mem_zip hp).2,i⟩
  ·refine .inl ?_
   rw [<- o.rest j fun p hp k b=>d ⟨p,k,hp,b⟩]
   exact c
theorem Ze3 {F:ZzZ} {m0 m:List MV} {v:JV} (b:F.map (·.2.sort)=m0.map MV.sort) (h:Xn ZaR F m0 v = .ok m):m.map MV.sort=m0.map MV.sort:=by
  have c:F.length=m0.length:=by have:=congrArg List.length b;simpa using this
  have f:m.length=m0.length:=((ZeD c).1 h).2.len
  refine Awy fun j=>?_
  rw [Awz,Awz]
  cases d:m[j]? with
  | none=>rw [Aqt (by rw [<- f];exact Azt.1 d)]
  | some x =>
    rcases Zk0 c h d with e | ⟨a,k,w,g,_,i⟩
    ·rw [e]
    ·have:(F.map (·.2.sort))[j]?=some k.sort:=by rw [Awz,g];rfl
     rw [b,Awz] at this
     rw [this,Aqx,ZoH i]
theorem ZgD {F:ZzZ} {m0 m:List MV} {v:JV} {N:Nat} (b:F.length=m0.length) (h:Xn ZaR F m0 v = .ok m) (l:wV v<=N) (c:∀ x,x∈m0->x.fits N):∀ x,x∈m->x.fits N:=by
  intro x d
  obtain ⟨j,f⟩:=Azm d
  rcases Zk0 b h f with e | ⟨a,k,w,_,g,i⟩
  ·exact c x (Axq e)
  ·exact MV.fits_mono (by have:=Zib g;have:=Zox v;omega) (ZvR i)
theorem ZrO {α β ε:Type} {f:α->β} {e:Except ε α} {b:β} (h:e.map f = .ok b):∃ a,e = .ok a/\b=f a:=by
  cases e with
  | error e=>cases h
  | ok a=>cases h;exact ⟨a,rfl,rfl⟩
theorem ZBr {v:JV} {f:FlowP} (h:Za0 v = .ok f) (hw:wV v<=1000000000000):f.res.length<9223372036854775807/\f.org.length<9223372036854775807/\f.ref.length<9223372036854775807:=by
  obtain ⟨m,hm,rfl⟩:=ZrO h
  have fits:=ZgD (N:=1000000000000) rfl hm hw (by intro x d;simp only [Zsb,Awr,Azk,or_false] at d;rcases d with rfl | rfl | rfl | rfl | rfl | rfl | rfl | rfl | rfl | rfl | rfl | rfl<;>first | trivial | (show _<=1000000000000;decide +kernel))
  rw [Zty (Ze3 (by rfl) hm)] at fits
  have a:=fits (.t (Zkx m).res) (by simp [FlowP.mv])
  have b:=fits (.t (Zkx m).org) (by simp [FlowP.mv])
  have c:=fits (.t (Zkx m).ref) (by simp [FlowP.mv])
  simp only [MV.fits] at a b c
  omega
theorem ZzF {v:JV} {f:Yx} (h:Zal v = .ok f) (hw:wV v<=1000000000000):f.res.length<9223372036854775807:=by
  obtain ⟨m,hm,rfl⟩:=ZrO h
  have fits:=ZgD (N:=1000000000000) rfl hm hw (by intro x b;simp only [Zlw,Awr,Azk,or_false] at b;rcases b with rfl | rfl | rfl | rfl | rfl | rfl | rfl<;>first | trivial | (show _<=1000000000000;decide +kernel))
  rw [ZqP (Ze3 (by rfl) hm)] at fits
  have a:=fits (.t (Zj4 m).res) (by simp [Yx.mv])
  simp only [MV.fits] at a
  omega
theorem ZEV {v:JV} {f:Zew} (h:Zcc v = .ok f) (hw:wV v<=1000000000000):f.res.length<9223372036854775807/\f.items.length<=1000000000000:=by
  obtain ⟨m,hm,rfl⟩:=ZrO h
  have fits:=ZgD (N:=1000000000000) rfl hm hw (by intro x c;simp only [ZwF,Awr,Azk,or_false] at c;rcases c with rfl | rfl | rfl | rfl | rfl<;>first | trivial | (show _<=1000000000000;decide +kernel))
  rw [ZuM (Ze3 (by rfl) hm)] at fits
  have a:=fits (.t (Zn3 m).res) (by simp [Zew.mv])
  have b:=fits (.is (Zn3 m).items) (by simp [Zew.mv])
  simp only [MV.fits] at a b
  omega
theorem ZBb {v:JV} {f:ZaI} (h:ZaY v = .ok f) (hw:wV v<=1000000000000):f.res.length<9223372036854775807/\∀ n,n∈f.origins->n.length<9223372036854775807:=by
  obtain ⟨m,hm,rfl⟩:=ZrO h
  have fits:=ZgD (N:=1000000000000) rfl hm hw (by
    intro x c
    simp only [Zqt,Awr,Azk,or_false] at c
    rcases c with rfl | rfl | rfl
    ·show _<=1000000000000;decide +kernel
    ·trivial
    ·intro s d;cases d)
  rw [Zto (Ze3 (by rfl) hm)] at fits
  have a:=fits (.t (Zlt m).res) (by simp [ZaI.mv])
  have b:=fits (.ts (Zlt m).origins) (by simp [ZaI.mv])
  simp only [MV.fits] at a b
  exact ⟨by omega,fun n e=>by have:=b n e;omega⟩
theorem Zx9 {v:JV} {ls:List JL} (h:Xn ZhI ZjE ZjF v = .ok ls):ls.length=5/\∀ l,l∈ls->pw l<=wV v:=by
  obtain ⟨_,o⟩:=(ZeD (rd:=ZhI) (F:=ZjE) (m0:=ZjF) rfl).1 h
  refine ⟨o.len,fun l g=>?_⟩
  obtain ⟨j,c⟩:=Azm g
  by_cases d:∃ p k,p∈ZBV v/\Zbh p.1 ZjE 0=some (j,k)
  ·obtain ⟨p,k,hp,a⟩:=d
   obtain ⟨i,m,y,e,b,f⟩:=o.each p hp
   rw [a] at e
   cases e
   rw [c] at f
   cases f
   unfold ZhI at b
   split at b<;>cases b
   have:=Zib (List.of_mem_zip hp).2
   have:=Zox p.2
   have:=Zox v
   omega
  ·have:=o.rest j fun p hp k a=>d ⟨p,k,hp,a⟩
   rw [c] at this
   have:l∈ZjF:=Axq this.symm
   simp only [ZjF,Awr,Azk,or_false] at this
   rcases this with rfl | rfl | rfl | rfl | rfl<;>exact Ayk _
theorem ZjG {ls:List JL} (a:ls.length=5) {i:Nat} (b:i<5):ls.getD i .nil∈ls:=by
  rw [Avb,Ayb (by omega)]
  exact Azn _
end Go.Js
namespace Go.Proofs.YtpjbjdheeemdiaaGreatDoor
open Go Go.Fw Go.Js
theorem Zqa {ls:List JL} {N:Nat} (j:ls.length=5) (hw:∀ l,l∈ls->pw l<=1000000000000) {a:List FlowP} {b:List Yx} {c:List Zew} {d:List Y4} {f:List ZaI} (k:Zap Za0 (ZnK ls 0) 0 = .ok a) (m:Zap Zal (ZnK ls 1) 0 = .ok b) (n:Zap Zcc (ZnK ls 2) 0 = .ok c) (o:Zap ZaY (ZnK ls 4) 0 = .ok f) :
    RulesP.fit ⟨a,b,c,d,f⟩:=by
  have wl:∀ {i:Nat} {w:JV},i<5->w∈ZnK ls i->wV w<=1000000000000:=fun p hm=>Aqp (Zib hm) (hw _ (ZjG j p))
  refine ⟨fun x e=>?_,fun x e=>?_,fun x e=>?_,fun x e=>?_⟩
  ·obtain ⟨w,g,h⟩:=Zhs k x e
   exact ZBr h (wl (by decide) g)
  ·obtain ⟨w,g,h⟩:=Zhs m x e
   exact ZzF h (wl (by decide) g)
  ·obtain ⟨w,g,h⟩:=Zhs n x e
   exact ZEV h (wl (by decide) g)
  ·obtain ⟨w,g,h⟩:=Zhs o x e
   exact ZBb h (wl (by decide) g)
end Go.Proofs.YtpjbjdheeemdiaaGreatDoor
namespace Go.Proofs.YtpjbjdheeemdiaaGreatDoor
open Go Go.Fw Go.Js
theorem Zkl {B:Nat} {T:TypeId} {S:Nat->Prop} {ls:List JL} {h:Zc} (rt:ZiS B T S ls h) (k:ls.length=5) {j:Nat} (l:j<5):∃ v x e,obj h B=some (.cells v T (0,0))/\v.toList[j]?=some (slV x)/\Row h x 4 e/\inS S x/\XC h S (ls.getD j .nil) e:=by
  obtain ⟨vs,c,m,g⟩:=rt
  have f:ls[j]?=some (ls.getD j .nil):=by rw [Avb,Ayb (by omega)];rfl
  obtain ⟨v,i,x,e,rfl,a,b,d⟩:=g j _ f
  exact ⟨vs.toArray,x,e,c,i,a,b,d⟩
theorem ZeT {h:Zc} {O:Nat} {T:TypeId} {xs ys:List Value} {j:Nat} {x:Sl} (c:obj h O=some (.cells xs.toArray T (0,0))) (a:j<xs.length) (b:xs.set j (slV x)=ys) {K:HP} (d:∀ h',obj h' O=some (.cells ys.toArray T (0,0))->Upd (· = O) h h'->sz h'=sz h->K h'):st h O j (slV x) K:=by
  subst b
  exact Zk2 c a rfl d
theorem Zkv {h:Zc} {k:Int} {a a2:Option Addr} {K:(Option Addr × Option Addr × Option Addr × Unit)->HP} (b:∀ c3 h',Ext h h'->sz h<=c3->Box h' c3 (.int .i64 k)->K (a,a2,At c3,()) h'):X7 k a a2 K h:=by
  unfold X7 Zco
  exact YZ fun c d e f=>b h.size c e (Aqo _) ⟨_,d⟩
def ZiT (a B b:Nat) (_:Unit) (j:Nat) (v:Value) (h:Zc):Prop:=∃ c3,v = .func (.func 57) #[] #[.pointer (At a),.pointer (At B),.pointer (At c3)]/\b<=c3/\Box h c3 (.int .i64 (j:Int))
theorem ZiT.ext {d B e:Nat} {k:Unit} {j:Nat} {v:Value} {h h':Zc} (g:ZiT d B e k j v h) (u:Ext h h'):ZiT d B e k j v h':=let ⟨c3,a,b,c⟩:=g;⟨c3,a,b,c.ext u⟩
theorem ZiT.map {d B e:Nat} {k:Unit} {j:Nat} {v:Value} {h h':Zc} (u:ZFv h h') (g:ZiT d B e k j v h):ZiT d B e k j v h':=let ⟨c3,a,b,c⟩:=g;⟨c3,a,b,c.map u⟩
def Za9:Nat->Nat:=fun j=>([5,8,11,14,17]:List Nat).getD j 1000
def ZkG (ls:List JL) (base:Nat) (x:Sl) (h:Zc):Prop:=∃ fs:List FlowP,Zap Za0 (ZnK ls 0) 0 = .ok fs/\Own h base x 12 (fs.flatMap Zd5)
theorem ZkG.base {ls:List JL} {base base':Nat} {x:Sl} {h:Zc} (d:ZkG ls base x h) (c:base'<=base):ZkG ls base' x h:=by
  obtain ⟨fs,a,b⟩:=d
  exact ⟨fs,a,b.base c⟩
theorem ZkG.upd {ls:List JL} {base:Nat} {x:Sl} {U:Nat->Prop} {h h':Zc} (d:ZkG ls base x h) (u:Upd U h h') (c:∀ b,base<=b->¬ U b):ZkG ls base x h':=by
  obtain ⟨fs,a,b⟩:=d
  exact ⟨fs,a,b.congr fun b _ e f=>Zt u e (c b f)⟩
theorem ZE8 {h:Zc} {B O:Nat} {T o:TypeId} {S:Nat->Prop} {ls:List JL} {z:VTR} (rt:ZiS B T S ls h) (p:ls.length=5) (r:∀ b,S b->b<sz h) (co:obj h O=some (.cells (Zak z).toArray o (0,0))) (ht:ZaT h) (t:9<=sz h) (hw:∀ l,l∈ls->pw l<=1000000000000) {K:Int->Int->HP}
    (ok:∀ x h',ZkG ls (sz h) x h'->obj h' O=some (.cells (Zak (x,z.2.1,z.2.2.1,z.2.2.2.1,z.2.2.2.2.1,())).toArray o (0,0))->Upd (· = O) h h'->K 0 0 h') (bad:∀ (i e:Nat) h',Zap Za0 (ZnK ls 0) 0 = .error (i,e)->e≠0->Upd (· = O) h h'->K i e h'):X6 (At B) (At O) K h:=by
  unfold X6 Zcn
  obtain ⟨vs,x,C,c,u,row,f,g⟩:=Zkl rt p (j:=0) (by decide)
  have D:=ZaK co
  have k:=hw _ (ZjG p (i:=0) (by decide))
  refine Za (Za (Zo ⟨by decide,by decide,?_⟩))
  refine rL (s:=x) (Zb (l:=vs.toList) (by simpa using c) (by simpa using u)) ?_
  refine Zzs row f g r ht t k (fun y fs h' m own a=>?_) fun i e h' m v a=>?_
  ·refine Zo (ZeT (Zn co a) (by show _<5;omega) rfl fun n q d w=>Za (Za (ok y n ⟨fs,m,own.congr fun b _ A E=>Zt d A fun e=>by omega⟩ q (UN a d))))
  ·exact Zo (ZeT (Zn co a) (by show _<5;omega) rfl fun n q d w=>Za (Za (bad i e n m v (UN a d))))
def Zh9 (ls:List JL) (base:Nat) (x:Sl) (h:Zc):Prop:=∃ fs:List Yx,Zap Zal (ZnK ls 1) 0 = .ok fs/\Own h base x 7 (fs.flatMap Zcu)
theorem Zh9.base {ls:List JL} {base base':Nat} {x:Sl} {h:Zc} (d:Zh9 ls base x h) (c:base'<=base):Zh9 ls base' x h:=by
  obtain ⟨fs,a,b⟩:=d
  exact ⟨fs,a,b.base c⟩
theorem Zh9.upd {ls:List JL} {base:Nat} {x:Sl} {U:Nat->Prop} {h h':Zc} (d:Zh9 ls base x h) (u:Upd U h h') (c:∀ b,base<=b->¬ U b):Zh9 ls base x h':=by
  obtain ⟨fs,a,b⟩:=d
  exact ⟨fs,a,b.congr fun b _ e f=>Zt u e (c b f)⟩
theorem ZBn {h:Zc} {B O:Nat} {T o:TypeId} {S:Nat->Prop} {ls:List JL} {z:VTR} (rt:ZiS B T S ls h) (p:ls.length=5) (r:∀ b,S b->b<sz h) (co:obj h O=some (.cells (Zak z).toArray o (0,0))) (ht:ZaT h) (t:9<=sz h) (hw:∀ l,l∈ls->pw l<=1000000000000) {K:Int->Int->HP}
    (ok:∀ x h',Zh9 ls (sz h) x h'->obj h' O=some (.cells (Zak (z.1,x,z.2.2.1,z.2.2.2.1,z.2.2.2.2.1,())).toArray o (0,0))->Upd (· = O) h h'->K 0 0 h') (bad:∀ (i e:Nat) h',Zap Zal (ZnK ls 1) 0 = .error (i,e)->e≠0->Upd (· = O) h h'->K i e h'):X5 (At B) (At O) K h:=by
  unfold X5 Zcm
  obtain ⟨vs,x,C,c,u,row,f,g⟩:=Zkl rt p (j:=1) (by decide)
  have D:=ZaK co
  have k:=hw _ (ZjG p (i:=1) (by decide))
  refine Za (Za (Zo ⟨by decide,by decide,?_⟩))
  refine rL (s:=x) (Zb (l:=vs.toList) (by simpa using c) (by simpa using u)) ?_
  refine Zww row f g r ht t k (fun y fs h' m own a=>?_) fun i e h' m v a=>?_
  ·refine Zo (ZeT (Zn co a) (by show _<5;omega) rfl fun n q d w=>Za (Za (ok y n ⟨fs,m,own.congr fun b _ A E=>Zt d A fun e=>by omega⟩ q (UN a d))))
  ·exact Zo (ZeT (Zn co a) (by show _<5;omega) rfl fun n q d w=>Za (Za (bad i e n m v (UN a d))))
def ZqW (ls:List JL) (base:Nat) (x:Sl) (h:Zc):Prop:=∃ fs:List (Sl × Zew),Zap Zcc (ZnK ls 2) 0 = .ok (fs.map (·.2))/\Own h base x 5 (fs.flatMap ZlF)/\∀ p,p∈fs->Own h base p.1 2 (ZfF p.2.items)
theorem ZqW.base {ls:List JL} {base base':Nat} {x:Sl} {h:Zc} (d:ZqW ls base x h) (e:base'<=base):ZqW ls base' x h:=by
  obtain ⟨fs,a,b,c⟩:=d
  exact ⟨fs,a,b.base e,fun p hp=>(c p hp).base e⟩
theorem ZqW.upd {ls:List JL} {base:Nat} {x:Sl} {U:Nat->Prop} {h h':Zc} (d:ZqW ls base x h) (u:Upd U h h') (g:∀ b,base<=b->¬ U b):ZqW ls base x h':=by
  obtain ⟨fs,a,b,c⟩:=d
  exact ⟨fs,a,b.congr fun b _ e f=>Zt u e (g b f),fun p hp=>(c p hp).congr fun b _ e f=>Zt u e (g b f)⟩
theorem ZG8 {h:Zc} {B O:Nat} {T r:TypeId} {S:Nat->Prop} {ls:List JL} {z:VTR} (rt:ZiS B T S ls h) (t:ls.length=5) (v:∀ b,S b->b<sz h) (co:obj h O=some (.cells (Zak z).toArray r (0,0))) (ht:ZaT h) (w:9<=sz h) (hw:∀ l,l∈ls->pw l<=1000000000000) {K:Int->Int->HP}
    (ok:∀ x h',ZqW ls (sz h) x h'->obj h' O=some (.cells (Zak (z.1,z.2.1,x,z.2.2.2.1,z.2.2.2.2.1,())).toArray r (0,0))->Upd (· = O) h h'->K 0 0 h') (bad:∀ (i e:Nat) h',Zap Zcc (ZnK ls 2) 0 = .error (i,e)->e≠0->Upd (· = O) h h'->K i e h'):X4 (At B) (At O) K h:=by
  unfold X4 Zcl
  obtain ⟨vs,x,F,c,A,row,f,g⟩:=Zkl rt t (j:=2) (by decide)
  have G:=ZaK co
  have k:=hw _ (ZjG t (i:=2) (by decide))
  refine Za (Za (Zo ⟨by decide,by decide,?_⟩))
  refine rL (s:=x) (Zb (l:=vs.toList) (by simpa using c) (by simpa using A)) ?_
  refine ZBF row f g v ht w k (fun y fs h' m own n a=>?_) fun i e h' m C a=>?_
  ·refine Zo (ZeT (Zn co a) (by show _<5;omega) rfl fun o u d D=>Za (Za (ok y o ⟨fs,m,own.congr fun b _ q E=>Zt d q fun e=>by omega,fun p hp=>(n p hp).congr fun b _ q E=>Zt d q fun e=>by omega⟩ u (UN a d))))
  ·exact Zo (ZeT (Zn co a) (by show _<5;omega) rfl fun o u d D=>Za (Za (bad i e o m C (UN a d))))
def ZfH (ls:List JL) (base:Nat) (x:Sl) (h:Zc):Prop:=∃ fs:List Y4,Zap Zaa (ZnK ls 3) 0 = .ok fs/\Own h base x 5 (fs.flatMap ZbG)
theorem ZfH.base {ls:List JL} {base base':Nat} {x:Sl} {h:Zc} (d:ZfH ls base x h) (c:base'<=base):ZfH ls base' x h:=by
  obtain ⟨fs,a,b⟩:=d
  exact ⟨fs,a,b.base c⟩
theorem ZfH.upd {ls:List JL} {base:Nat} {x:Sl} {U:Nat->Prop} {h h':Zc} (d:ZfH ls base x h) (u:Upd U h h') (c:∀ b,base<=b->¬ U b):ZfH ls base x h':=by
  obtain ⟨fs,a,b⟩:=d
  exact ⟨fs,a,b.congr fun b _ e f=>Zt u e (c b f)⟩
theorem Zzb {h:Zc} {B O:Nat} {T o:TypeId} {S:Nat->Prop} {ls:List JL} {z:VTR} (rt:ZiS B T S ls h) (p:ls.length=5) (r:∀ b,S b->b<sz h) (co:obj h O=some (.cells (Zak z).toArray o (0,0))) (ht:ZaT h) (t:9<=sz h) (hw:∀ l,l∈ls->pw l<=1000000000000) {K:Int->Int->HP}
    (ok:∀ x h',ZfH ls (sz h) x h'->obj h' O=some (.cells (Zak (z.1,z.2.1,z.2.2.1,x,z.2.2.2.2.1,())).toArray o (0,0))->Upd (· = O) h h'->K 0 0 h') (bad:∀ (i e:Nat) h',Zap Zaa (ZnK ls 3) 0 = .error (i,e)->e≠0->Upd (· = O) h h'->K i e h'):X3 (At B) (At O) K h:=by
  unfold X3 Zck
  obtain ⟨vs,x,C,c,u,row,f,g⟩:=Zkl rt p (j:=3) (by decide)
  have D:=ZaK co
  have k:=hw _ (ZjG p (i:=3) (by decide))
  refine Za (Za (Zo ⟨by decide,by decide,?_⟩))
  refine rL (s:=x) (Zb (l:=vs.toList) (by simpa using c) (by simpa using u)) ?_
  refine ZtE row f g r ht t k (fun y fs h' m own a=>?_) fun i e h' m v a=>?_
  ·refine Zo (ZeT (Zn co a) (by show _<5;omega) rfl fun n q d w=>Za (Za (ok y n ⟨fs,m,own.congr fun b _ A E=>Zt d A fun e=>by omega⟩ q (UN a d))))
  ·exact Zo (ZeT (Zn co a) (by show _<5;omega) rfl fun n q d w=>Za (Za (bad i e n m v (UN a d))))
def ZkF (ls:List JL) (base:Nat) (x:Sl) (h:Zc):Prop:=∃ fs:List (Sl × ZaI),Zap ZaY (ZnK ls 4) 0 = .ok (fs.map (·.2))/\Own h base x 3 (fs.flatMap Zgt)/\∀ p,p∈fs->Own h base p.1 1 (p.2.origins.map sV)
theorem ZkF.base {ls:List JL} {base base':Nat} {x:Sl} {h:Zc} (d:ZkF ls base x h) (e:base'<=base):ZkF ls base' x h:=by
  obtain ⟨fs,a,b,c⟩:=d
  exact ⟨fs,a,b.base e,fun p hp=>(c p hp).base e⟩
theorem ZkF.upd {ls:List JL} {base:Nat} {x:Sl} {U:Nat->Prop} {h h':Zc} (d:ZkF ls base x h) (u:Upd U h h') (g:∀ b,base<=b->¬ U b):ZkF ls base x h':=by
  obtain ⟨fs,a,b,c⟩:=d
  exact ⟨fs,a,b.congr fun b _ e f=>Zt u e (g b f),fun p hp=>(c p hp).congr fun b _ e f=>Zt u e (g b f)⟩
theorem ZE7 {h:Zc} {B O:Nat} {T r:TypeId} {S:Nat->Prop} {ls:List JL} {z:VTR} (rt:ZiS B T S ls h) (t:ls.length=5) (v:∀ b,S b->b<sz h) (co:obj h O=some (.cells (Zak z).toArray r (0,0))) (ht:ZaT h) (w:9<=sz h) (hw:∀ l,l∈ls->pw l<=1000000000000) {K:Int->Int->HP}
    (ok:∀ x h',ZkF ls (sz h) x h'->obj h' O=some (.cells (Zak (z.1,z.2.1,z.2.2.1,z.2.2.2.1,x,())).toArray r (0,0))->Upd (· = O) h h'->K 0 0 h') (bad:∀ (i e:Nat) h',Zap ZaY (ZnK ls 4) 0 = .error (i,e)->e≠0->Upd (· = O) h h'->K i e h'):X2 (At B) (At O) K h:=by
  unfold X2 Zcj
  obtain ⟨vs,x,F,c,A,row,f,g⟩:=Zkl rt t (j:=4) (by decide)
  have G:=ZaK co
  have k:=hw _ (ZjG t (i:=4) (by decide))
  refine Za (Za (Zo ⟨by decide,by decide,?_⟩))
  refine rL (s:=x) (Zb (l:=vs.toList) (by simpa using c) (by simpa using A)) ?_
  refine Zzr row f g v ht w k (fun y fs h' m own n a=>?_) fun i e h' m C a=>?_
  ·refine Zo (ZeT (Zn co a) (by show _<5;omega) rfl fun o u d D=>Za (Za (ok y o ⟨fs,m,own.congr fun b _ q E=>Zt d q fun e=>by omega,fun p hp=>(n p hp).congr fun b _ q E=>Zt d q fun e=>by omega⟩ u (UN a d))))
  ·exact Zo (ZeT (Zn co a) (by show _<5;omega) rfl fun o u d D=>Za (Za (bad i e o m C (UN a d))))
theorem Zwn {v:JV} {ls:List JL} (h:Xn ZhI ZjE ZjF v = .ok ls):Zho v=match Zb1 ls with
    | .error p=> .error p
    | .ok r=>if r.whereE.2.2=0 then .ok r else .error r.whereE:=by
  unfold Zho
  rw [h]
  rfl
set_option maxHeartbeats 4000000 in
set_option maxRecDepth 4000 in
theorem Zn4 {R:Zc} {z:VT5} {v:JV} {S:Nat->Prop} (hv:ZaS R S z v) (hS:∀ b,S b->b<sz R) (hw:wV v<=1000000000000) (ht:ZaT R) (h9:9<=sz R) {K:(Sl × Sl × Sl × Sl × Sl × Unit)->Int->Int->Int->HP}
    (ok:∀ x r h',Zho v = .ok r->ZaB h' (fun b=>sz R<=b) x r->RulesP.fit r->Ext R h'->K x 0 0 0 h')
    (bad:∀ (k i e:Nat) h',Zho v = .error (k,i,e)->e≠0->Ext R h'->K (⟨none,0,0⟩,⟨none,0,0⟩,⟨none,0,0⟩,⟨none,0,0⟩,⟨none,0,0⟩,()) e k i h'):XW z K R:=by
  unfold XW Zde
  refine YZ fun h1 c1 e1 z1=>YZ fun V c3 e3 z3=>Za (Za (Za (YZ fun h7 c7 e7 z7=>YZ fun H c9 e9 z9=>YZ fun aX bG az cJ=>?_)))
  have s0:sz R=R.size:=rfl
  have s1:sz h1=h1.size:=rfl
  have s3:sz V=V.size:=rfl
  have s7:sz h7=h7.size:=rfl
  have s9:sz H=H.size:=rfl
  have cK:sz aX=aX.size:=rfl
  refine Zk2 bG (by show 0<1;omega) rfl fun D c12 aA z12=>?_
  have cL:sz D=D.size:=rfl
  have bf:Ext R aX:=e1.trans (e3.trans (e7.trans (e9.trans az)))
  have bg:Ext R D:=bf.updS aA fun j hj=>by subst hj;omega
  have cv:obj D R.size=some (.cells (Xq z).toArray 33 (0,0)):=ZG (Zn (Zn (Zn (Zn c1 e3) e7) e9) az) aA (by omega)
  have cz:obj D h1.size=some (.cells (Zak (⟨none,0,0⟩,⟨none,0,0⟩,⟨none,0,0⟩,⟨none,0,0⟩,⟨none,0,0⟩,())).toArray 28 (0,0)):=ZG (Zn (Zn (Zn c3 e7) e9) az) aA (by omega)
  obtain ⟨TB,cB⟩:∃ TB,obj D V.size=some (.cells (Zak (⟨none,0,0⟩,⟨none,0,0⟩,⟨none,0,0⟩,⟨none,0,0⟩,⟨none,0,0⟩,())).toArray TB (0,0)):=⟨_,ZG (Zn (Zn c7 e9) az) aA (by omega)⟩
  have er:Er D h7.size 0:=⟨_,ZG (Zn c9 az) aA (by omega)⟩
  have aO:Box D H.size (.pointer (At h7.size)):=⟨_,c12⟩
  have bH:ZiS V.size TB S ZjF D:=⟨_,cB,rfl,fun i l hi=>by
    have hn:∀ (i:Nat),i<5->(Zak (⟨none,0,0⟩,⟨none,0,0⟩,⟨none,0,0⟩,⟨none,0,0⟩,⟨none,0,0⟩,()))[i]?=some (slV ⟨none,0,0⟩)/\ZjF[i]?=some JL.nil:=fun i hi=>by
      match i,hi with
      | 0,_=>exact ⟨rfl,rfl⟩
      | 1,_=>exact ⟨rfl,rfl⟩
      | 2,_=>exact ⟨rfl,rfl⟩
      | 3,_=>exact ⟨rfl,rfl⟩
      | 4,_=>exact ⟨rfl,rfl⟩
      | k+5,hi=>omega
    have bI:i<5:=Zy6 hi
    obtain ⟨a,b⟩:=hn i bI
    rw [b] at hi
    cases hi
    exact ⟨_,a,⟨none,0,0⟩,[],rfl,Row.nil _ _,fun h=>absurd rfl h,rfl⟩⟩
  have Hv:∀ {h':Zc},Ext D h'->Yb h' [(R.size,0,.int .u8 z.1),(R.size,0+1,.string z.2.1),(R.size,0+2,.slice z.2.2.1.ptr z.2.2.1.len z.2.2.1.cap),(R.size,0+3,.slice z.2.2.2.1.ptr z.2.2.2.1.len z.2.2.2.1.cap)]:=fun e=>Zr2 (Zn cv e)
  have Hp:∀ {h':Zc},Ext D h'->Yb h' [(H.size,0,.pointer (At h7.size))]:=fun e=>Zf9 (aO.ext e)
  refine rP (Zb c12 rfl) (rI (Zb cv rfl) (rS (Zb cv rfl) (rL (s:=z.2.2.1) (Zb cv rfl) (rL (s:=z.2.2.2.1) (Zb cv rfl) ?_))))
  refine ZdY (fun d t h=>Lit (ZiT H.size V.size (sz D)) ZjE 2 Za9 D d t.1 h/\(d 4=true->ZiT H.size V.size (sz D) () 0 (.func (.func 57) #[] #[.pointer t.2.1.1,.pointer t.2.1.2.1,.pointer t.2.1.2.2.1]) h)/\(d 7=true->ZiT H.size V.size (sz D) () 1 (.func (.func 57) #[] #[.pointer t.2.2.1.1,.pointer t.2.2.1.2.1,.pointer t.2.2.1.2.2.1]) h)/\(d 10=true->ZiT H.size V.size (sz D) () 2 (.func (.func 57) #[] #[.pointer t.2.2.2.1.1,.pointer t.2.2.2.1.2.1,.pointer t.2.2.2.1.2.2.1]) h)/\(d 13=true->ZiT H.size V.size (sz D) () 3 (.func (.func 57) #[] #[.pointer t.2.2.2.2.1.1,.pointer t.2.2.2.2.1.2.1,.pointer t.2.2.2.2.1.2.2.1]) h)/\(d 16=true->ZiT H.size V.size (sz D) () 4 (.func (.func 57) #[] #[.pointer t.2.2.2.2.2.1.1,.pointer t.2.2.2.2.2.1.2.1,.pointer t.2.2.2.2.2.1.2.2.1]) h)) (none,(none,none,none,()),(none,none,none,()),(none,none,none,()),(none,none,none,()),(none,none,none,()),()) ⟨Lit.start _ _,(fun e=>by cases e),(fun e=>by cases e),(fun e=>by cases e),(fun e=>by cases e),(fun e=>by cases e)⟩ ?_ ?_
  ·rintro d ⟨s0,s1,s2,s3,s4,s5,⟨⟩⟩ h ⟨L,q4,q7,J,M,O⟩
   refine ⟨?_,?_,?_,?_,?_,?_,?_,?_,?_,?_,?_,trivial⟩
   ·exact fun e0=>L.make e0 (by decide:∀ j,j<5->Za9 j≠2) fun mb h' L' w=>⟨Hv L'.ext,⟨Hp L'.ext,⟨L',fun e=>(q4 e).ext w,fun e=>(q7 e).ext w,fun e=>(J e).ext w,fun e=>(M e).ext w,fun e=>(O e).ext w⟩⟩⟩
   ·exact fun e0=>Zkv fun c3 h' w z3 b3=>⟨Hv (L.ext.trans w),⟨Hp (L.ext.trans w),⟨L.call w (fun g=>g.ext w) (by decide) (by decide:∀ j,j<5->Za9 j≠4),fun _=>⟨c3,rfl,Aqp L.ext.size z3,b3⟩,fun e=>(q7 e).ext w,fun e=>(J e).ext w,fun e=>(M e).ext w,fun e=>(O e).ext w⟩⟩⟩
   ·exact fun e0 a0 a1=>L.put a0 (j:=0) (a:=[102,108,111,119]) (k:=()) (by kernel_rfl) (by decide:∀ i,i<5->Za9 i=Za9 0->i=0) rfl (by decide) (q4 a1) ZiT.map fun h' L' w I=>⟨Hv w,⟨Hp w,⟨L',fun e=>(q4 e).map I,fun e=>(q7 e).map I,fun e=>(J e).map I,fun e=>(M e).map I,fun e=>(O e).map I⟩⟩⟩
   ·exact fun e0 _=>Zkv fun c3 h' w z3 b3=>⟨Hv (L.ext.trans w),⟨Hp (L.ext.trans w),⟨L.call w (fun g=>g.ext w) (by decide) (by decide:∀ j,j<5->Za9 j≠7),fun e=>(q4 e).ext w,fun _=>⟨c3,rfl,Aqp L.ext.size z3,b3⟩,fun e=>(J e).ext w,fun e=>(M e).ext w,fun e=>(O e).ext w⟩⟩⟩
   ·exact fun e0 a0 a1=>L.put a0 (j:=1) (a:=[98,114,101,97,107]) (k:=()) (by kernel_rfl) (by decide:∀ i,i<5->Za9 i=Za9 1->i=1) rfl (by decide) (q7 a1) ZiT.map fun h' L' w I=>⟨Hv w,⟨Hp w,⟨L',fun e=>(q4 e).map I,fun e=>(q7 e).map I,fun e=>(J e).map I,fun e=>(M e).map I,fun e=>(O e).map I⟩⟩⟩
   ·exact fun e0 _=>Zkv fun c3 h' w z3 b3=>⟨Hv (L.ext.trans w),⟨Hp (L.ext.trans w),⟨L.call w (fun g=>g.ext w) (by decide) (by decide:∀ j,j<5->Za9 j≠10),fun e=>(q4 e).ext w,fun e=>(q7 e).ext w,fun _=>⟨c3,rfl,Aqp L.ext.size z3,b3⟩,fun e=>(M e).ext w,fun e=>(O e).ext w⟩⟩⟩
   ·exact fun e0 a0 a1=>L.put a0 (j:=2) (a:=[104,111,116]) (k:=()) (by kernel_rfl) (by decide:∀ i,i<5->Za9 i=Za9 2->i=2) rfl (by decide) (J a1) ZiT.map fun h' L' w I=>⟨Hv w,⟨Hp w,⟨L',fun e=>(q4 e).map I,fun e=>(q7 e).map I,fun e=>(J e).map I,fun e=>(M e).map I,fun e=>(O e).map I⟩⟩⟩
   ·exact fun e0 _=>Zkv fun c3 h' w z3 b3=>⟨Hv (L.ext.trans w),⟨Hp (L.ext.trans w),⟨L.call w (fun g=>g.ext w) (by decide) (by decide:∀ j,j<5->Za9 j≠13),fun e=>(q4 e).ext w,fun e=>(q7 e).ext w,fun e=>(J e).ext w,fun _=>⟨c3,rfl,Aqp L.ext.size z3,b3⟩,fun e=>(O e).ext w⟩⟩⟩
   ·exact fun e0 a0 a1=>L.put a0 (j:=3) (a:=[115,121,115,116,101,109]) (k:=()) (by kernel_rfl) (by decide:∀ i,i<5->Za9 i=Za9 3->i=3) rfl (by decide) (M a1) ZiT.map fun h' L' w I=>⟨Hv w,⟨Hp w,⟨L',fun e=>(q4 e).map I,fun e=>(q7 e).map I,fun e=>(J e).map I,fun e=>(M e).map I,fun e=>(O e).map I⟩⟩⟩
   ·exact fun e0 _=>Zkv fun c3 h' w z3 b3=>⟨Hv (L.ext.trans w),⟨Hp (L.ext.trans w),⟨L.call w (fun g=>g.ext w) (by decide) (by decide:∀ j,j<5->Za9 j≠16),fun e=>(q4 e).ext w,fun e=>(q7 e).ext w,fun e=>(J e).ext w,fun e=>(M e).ext w,fun _=>⟨c3,rfl,Aqp L.ext.size z3,b3⟩⟩⟩⟩
   ·exact fun e0 a0 a1=>L.put a0 (j:=4) (a:=[97,117,116,104,111,114,105,116,121]) (k:=()) (by kernel_rfl) (by decide:∀ i,i<5->Za9 i=Za9 4->i=4) rfl (by decide) (O a1) ZiT.map fun h' L' w I=>⟨Hv w,⟨Hp w,⟨L',fun e=>(q4 e).map I,fun e=>(q7 e).map I,fun e=>(J e).map I,fun e=>(M e).map I,fun e=>(O e).map I⟩⟩⟩
  ·rintro d ⟨s0,s1,s2,s3,s4,s5,⟨⟩⟩ h ⟨L,q4,q7,J,M,O⟩
   intro d2 d4 d5 d7 d8 d10 d11 d13 d14 d16 d17
   refine ⟨Hv L.ext,⟨Hp L.ext,?_⟩⟩
   obtain ⟨mb,f,n,cls,rfl,cP,hm,hf,hG⟩:=L.all d2 (fun j hj=>match j,hj with
     | 0,_=>d5
     | 1,_=>d8
     | 2,_=>d11
     | 3,_=>d14
     | 4,_=>d17
     | k+5,hj=>absurd hj (Azu.2 (Azv 5 k)))
   have cR:sz D<=sz h:=L.ext.size
   have cS:sz h=h.size:=rfl
   have hh:Ext R h:=bg.trans L.ext
   have bK:ZaS h S z v:=hv.keep (fun b _ hl=>Zu hh hl) fun _ h=>h
   have cT:=Zn cB L.ext
   refine ⟨1,?_⟩
   show Xt (ZH 0) _ _ _ _ _
   refine ZoV (rd:=ZhI) (F:=ZjE) (m0:=ZjF) (tgt:=fun ls h'=>ZiS V.size TB S ls h'/\ls.length=5) (W:=fun b=>b=h7.size\/b=V.size) (P:=fun _=>True) (cls:=cls) (er.ext L.ext) ⟨bH.upd (L.ext.upd fun _=>False) (fun h=>h) fun _ _ h=>h,rfl⟩ (.inl rfl) (by rintro (e | e)<;>omega) hm hf (by rintro (e | e)<;>omega)
     (fun a j k hq=>let ⟨c,e,_⟩:=hG a j k hq;⟨_,_,_,e⟩) ?_ (S:=S) bK (fun b X=>⟨by have:=hS b X;omega,by have:=hS b X;rintro (e | e)<;>omega⟩) (fun _ _=>trivial) ?_ (fun ls B a b c d=>?_)
     fun e ls B a b c d=>?_
   ·intro m h4 h5 a hs u
    exact ⟨a.1.upd u (by omega) fun b X e=>by have:=hS b X;omega,a.2⟩
   ·intro h4 m j k a z' v' K' u cV tg bL bk hz _ _ bM bm
    obtain ⟨bN,e,l3,b3⟩:=hG a j k bk
    have bO:j<5:=Zsc bk
    refine .inr (.inr (.inr (.inr (.inr (.inl ⟨(At H.size,At V.size,At bN,()),e,?_⟩)))))
    have bP:Box h4 H.size (.pointer (At h7.size)):=(aO.ext L.ext).upd u (by rintro (e | e)<;>omega)
    refine ZEy bL tg.1 (by omega) tg.2 bO (fun b X=>by have:=hS b X;omega) bP (b3.upd u (by rintro (e | e)<;>omega)) hz (fun x h' a b c d=>bM x h' a ⟨b,by rw [List.length_set];exact tg.2⟩ c d) fun e h' a hn b c d=>bm e m h' a hn ⟨b,tg.2⟩ c d
   ·
    have al:∀ l,l∈ls->pw l<=1000000000000:=fun l hl=>Aqp ((Zx9 a).2 l hl) hw
    have cX:sz B=B.size:=rfl
    have bQ:sz h<=sz B:=d.size
    have aE:Ext R B:=hh.updS d (by rintro j (e | e)<;>omega)
    obtain ⟨Tp,cp⟩:Box B H.size (.pointer (At h7.size)):=(aO.ext L.ext).upd d (by rintro (e | e)<;>omega)
    have aF:=ZG (Zn cz L.ext) d (by rintro (e | e)<;>omega)
    refine rP (Zb cp rfl) (Zo (Zfy c (Zl rfl (YZ fun aY bR bS cY=>YZ fun A bT bp cZ=>?_))))
    have da:sz aY=aY.size:=rfl
    have db:sz A=A.size:=rfl
    have ai:Ext B A:=bS.trans bp
    have bq:Ext R A:=aE.trans ai
    have bs:obj A B.size=some (.cells (Zak (⟨none,0,0⟩,⟨none,0,0⟩,⟨none,0,0⟩,⟨none,0,0⟩,⟨none,0,0⟩,())).toArray 28 (0,0)):=Zn bR bp
    have bt:=Zn aF ai
    have bw:ZiS V.size TB S ls A:=b.1.upd (ai.upd fun _=>False) (fun h=>h) fun _ _ h=>h
    refine Zv (fun p h'=>∃ (k:Nat) (x0 x1 x2 x3 x4:Sl),p.1=k/\k<=5/\obj h' B.size=some (.cells (Zak (x0,x1,x2,x3,x4,())).toArray 28 (0,0))/\(0<k->ZkG ls (sz A) x0 h')/\(1<k->Zh9 ls (sz A) x1 h')/\(2<k->ZqW ls (sz A) x2 h')/\(3<k->ZfH ls (sz A) x3 h')/\(4<k->ZkF ls (sz A) x4 h')/\Upd (· = B.size) A h') (fun p _=>(5 - p.1).toNat)
      ⟨0,⟨none,0,0⟩,⟨none,0,0⟩,⟨none,0,0⟩,⟨none,0,0⟩,⟨none,0,0⟩,rfl,by decide,bs,fun e=>absurd e (by decide),fun e=>absurd e (by decide),fun e=>absurd e (by decide),fun e=>absurd e (by decide),fun e=>absurd e (by decide),Upd.refl _ _⟩ ?_
    rintro ⟨k_,u⟩ Q ⟨k,x0,x1,x2,x3,x4,hk,dc,co,d0,d1,aG,d3,bU,U⟩
    dsimp only at hk ⊢
    subst hk
    have Z:sz A<=sz Q:=U.size
    have aH:Ext R Q:=bq.updS U fun j hj=>by omega
    have aS:=ZG bt U (by omega)
    have aa:ZiS V.size TB S ls Q:=bw.upd U (by omega) fun b X=>by have:=hS b X;omega
    have bx:=ZG bT U (by omega)
    have ab:Row Q ⟨some ⟨aY.size,0,none⟩,5,5⟩ 1 _:=ZqM (n:=5) bx rfl (by decide)
    have t68:=ht.ext aH
    have aI:9<=sz Q:=by omega
    have ad:∀ b,S b->b<sz Q:=fun b X=>by have:=hS b X;omega
    have C:∀ {h':Zc},Upd (· = B.size) Q h'->∀ b,sz A<=b->¬ b=B.size:=fun u b X=>by omega
    have G:=Zwn a
    refine Zq (fun dd=>?_) fun de=>?_
    ·have bV:k=0\/k=1\/k=2\/k=3\/k=4:=by omega
     have fin:∀ {i e:Nat} {E:Zc},Zho v = .error (k+1,i,e)->e≠0->Upd (· = B.size) Q E->sts E h1.size 0 [.slice none 0 0,.slice none 0 0,.slice none 0 0,.slice none 0 0,.slice none 0 0] (fun ae=>Zi (e:Int) fun t80=>Zi (IntKind.wrap .u8 (IntKind.wrap .i64 ((k:Int)+1))) fun t81=>Zi (i:Int) fun t82 =>
         ldL ae h1.size 0 fun t83=>ldL ae h1.size (0+1) fun t84=>ldL ae h1.size (0+2) fun t85=>ldL ae h1.size (0+3) fun t86=>ldL ae h1.size (0+4) fun t87=>K (t83,t84,t85,t86,t87,()) t80 t81 t82 ae):=fun {i e E} hE hn q=>by
       have bz:=ZG aS q (by omega)
       refine ZfK bz (by show 5<=5;omega) rfl fun ae aK bW df=>Za (Za (Za ?_))
       rw [YA (by omega) (by omega),ZsM (by omega) (by omega)]
       refine rL (s:=⟨none,0,0⟩) (Zb aK rfl) (rL (s:=⟨none,0,0⟩) (Zb aK rfl) (rL (s:=⟨none,0,0⟩) (Zb aK rfl) (rL (s:=⟨none,0,0⟩) (Zb aK rfl) (rL (s:=⟨none,0,0⟩) (Zb aK rfl) (bad (k+1) i e ae hE hn ?_)))))
       exact (aH.updS q fun j hj=>by omega).updS bW fun j hj=>by omega
     rcases bV with rfl | rfl | rfl | rfl | rfl
     ·refine Zok ab rfl rfl (Za (.inl ⟨(At V.size,At B.size,()),rfl,ZE8 aa b.2 ad co t68 aI al (fun y E Y c72 q=>Za (Za (Zl rfl ?_))) fun i e E hE hn q=>Za (Za (Zm (by simp;omega) (fin ?_ hn q)))⟩))
      ·have dk:ZkG ls (sz A) y E:=Y.base Z
       rw [YA (by omega) (by omega)]
       exact ⟨⟨1,y,x1,x2,x3,x4,rfl,by decide,c72,fun _=>dk,fun e=>absurd e (by decide),fun e=>absurd e (by decide),fun e=>absurd e (by decide),fun e=>absurd e (by decide),U.trans q⟩,by omega⟩
      ·rw [G]
       unfold Zb1
       rw [hE]
     ·refine Zok ab rfl rfl (Za (.inr (.inl ⟨(At V.size,At B.size,()),rfl,ZBn aa b.2 ad co t68 aI al (fun y E Y c72 q=>Za (Za (Zl rfl ?_))) fun i e E hE hn q=>Za (Za (Zm (by simp;omega) (fin ?_ hn q)))⟩)))
      ·have dk:Zh9 ls (sz A) y E:=Y.base Z
       rw [YA (by omega) (by omega)]
       exact ⟨⟨2,x0,y,x2,x3,x4,rfl,by decide,c72,fun e=>(d0 (by decide)).upd q (C q),fun _=>dk,fun e=>absurd e (by decide),fun e=>absurd e (by decide),fun e=>absurd e (by decide),U.trans q⟩,by omega⟩
      ·rw [G]
       obtain ⟨f0,g0,_⟩:=d0 (by decide)
       unfold Zb1
       rw [g0,hE]
     ·refine Zok ab rfl rfl (Za (.inr (.inr (.inl ⟨(At V.size,At B.size,()),rfl,ZG8 aa b.2 ad co t68 aI al (fun y E Y c72 q=>Za (Za (Zl rfl ?_))) fun i e E hE hn q=>Za (Za (Zm (by simp;omega) (fin ?_ hn q)))⟩))))
      ·have dk:ZqW ls (sz A) y E:=Y.base Z
       rw [YA (by omega) (by omega)]
       exact ⟨⟨3,x0,x1,y,x3,x4,rfl,by decide,c72,fun e=>(d0 (by decide)).upd q (C q),fun e=>(d1 (by decide)).upd q (C q),fun _=>dk,fun e=>absurd e (by decide),fun e=>absurd e (by decide),U.trans q⟩,by omega⟩
      ·rw [G]
       obtain ⟨f0,g0,_⟩:=d0 (by decide)
       obtain ⟨f1,g1,_⟩:=d1 (by decide)
       unfold Zb1
       rw [g0,g1,hE]
     ·refine Zok ab rfl rfl (Za (.inr (.inr (.inr (.inl ⟨(At V.size,At B.size,()),rfl,Zzb aa b.2 ad co t68 aI al (fun y E Y c72 q=>Za (Za (Zl rfl ?_))) fun i e E hE hn q=>Za (Za (Zm (by simp;omega) (fin ?_ hn q)))⟩)))))
      ·have dk:ZfH ls (sz A) y E:=Y.base Z
       rw [YA (by omega) (by omega)]
       exact ⟨⟨4,x0,x1,x2,y,x4,rfl,by decide,c72,fun e=>(d0 (by decide)).upd q (C q),fun e=>(d1 (by decide)).upd q (C q),fun e=>(aG (by decide)).upd q (C q),fun _=>dk,fun e=>absurd e (by decide),U.trans q⟩,by omega⟩
      ·rw [G]
       obtain ⟨f0,g0,_⟩:=d0 (by decide)
       obtain ⟨f1,g1,_⟩:=d1 (by decide)
       obtain ⟨f2,g2,_⟩:=aG (by decide)
       unfold Zb1
       rw [g0,g1,g2,hE]
     ·refine Zok ab rfl rfl (Za (.inr (.inr (.inr (.inr (.inl ⟨(At V.size,At B.size,()),rfl,ZE7 aa b.2 ad co t68 aI al (fun y E Y c72 q=>Za (Za (Zl rfl ?_))) fun i e E hE hn q=>Za (Za (Zm (by simp;omega) (fin ?_ hn q)))⟩))))))
      ·have dk:ZkF ls (sz A) y E:=Y.base Z
       rw [YA (by omega) (by omega)]
       exact ⟨⟨5,x0,x1,x2,x3,y,rfl,by decide,c72,fun e=>(d0 (by decide)).upd q (C q),fun e=>(d1 (by decide)).upd q (C q),fun e=>(aG (by decide)).upd q (C q),fun e=>(d3 (by decide)).upd q (C q),fun _=>dk,U.trans q⟩,by omega⟩
      ·rw [G]
       obtain ⟨f0,g0,_⟩:=d0 (by decide)
       obtain ⟨f1,g1,_⟩:=d1 (by decide)
       obtain ⟨f2,g2,_⟩:=aG (by decide)
       obtain ⟨f3,g3,_⟩:=d3 (by decide)
       unfold Zb1
       rw [g0,g1,g2,g3,hE]
    ·have:k=5:=by omega
     subst this
     obtain ⟨fa,ha,oa⟩:=d0 (by decide)
     obtain ⟨fb,X,ob⟩:=d1 (by decide)
     obtain ⟨fc,hc,oc,ic⟩:=aG (by decide)
     obtain ⟨fd,hd,od⟩:=d3 (by decide)
     obtain ⟨fe,he,oe,ie⟩:=bU (by decide)
     obtain ⟨r,hr⟩:∃ r:RulesP,r=⟨fa,fb,fc.map (·.2),fd,fe.map (·.2)⟩:=⟨_,rfl⟩
     have bZ:Zb1 ls = .ok r:=by unfold Zb1;rw [ha,X,hc,hd,he,hr]
     have aT:RulesP.fit r:=by rw [hr];exact Zqa (N:=0) b.2 al ha X hc he
     have T:∀ {x:Sl} {n:Nat} {vs:List Value},Own Q (sz A) x n vs->Row Q x n vs/\inS (fun b=>sz R<=b) x:=fun o=>⟨o.row,fun _ b X=>by have:=(o.lt X).1;omega⟩
     have rr:ZaB Q (fun b=>sz R<=b) (x0,x1,x2,x3,x4,()) r:=by
       rw [hr]
       exact ⟨T oa,T ob,⟨fc,rfl,T oc,fun p hp=>T (ic p hp)⟩,T od,⟨fe,rfl,T oe,fun p hp=>T (ie p hp)⟩⟩
     rw [bZ] at G
     refine rL (s:=x0) (Zb co rfl) (rL (s:=x1) (Zb co rfl) (rL (s:=x2) (Zb co rfl) (rL (s:=x3) (Zb co rfl) (rL (s:=x4) (Zb co rfl) (Zof rr aT fun bA p hp aR=>Za (Za (Za ?_)))))))
     have aU:=Zn aS aR
     have af:=Zn co aR
     have aV:=aH.trans aR
     refine Zar (fun dj=>?_) fun heq=>?_
     ·refine ZfK aU (by show 5<=5;omega) rfl fun ca aL cb dm=>Za (Za (Za ?_))
      refine rL (s:=⟨none,0,0⟩) (Zb aL rfl) (rL (s:=⟨none,0,0⟩) (Zb aL rfl) (rL (s:=⟨none,0,0⟩) (Zb aL rfl) (rL (s:=⟨none,0,0⟩) (Zb aL rfl) (rL (s:=⟨none,0,0⟩) (Zb aL rfl) (bad p.1 p.2.1 p.2.2 ca ?_ (by omega) ?_)))))
      ·rw [G]
       show (if r.whereE.2.2=0 then _ else _)=_
       rw [if_neg (by rw [<- hp];omega),<- hp]
      ·exact aV.updS cb fun j hj=>by omega
     ·refine rL (s:=x0) (Zb af rfl) (rL (s:=x1) (Zb af rfl) (rL (s:=x2) (Zb af rfl) (rL (s:=x3) (Zb af rfl) (rL (s:=x4) (Zb af rfl) (ZfK aU (by show 5<=5;omega) rfl fun bB ag aW cE=>Za (Za (Za ?_)))))))
      refine rL (s:=x0) (Zb ag rfl) (rL (s:=x1) (Zb ag rfl) (rL (s:=x2) (Zb ag rfl) (rL (s:=x3) (Zb ag rfl) (rL (s:=x4) (Zb ag rfl) (ok (x0,x1,x2,x3,x4,()) r bB ?_ ?_ aT ?_)))))
      ·rw [G]
       show (if r.whereE.2.2=0 then _ else _)=_
       rw [if_pos (by rw [<- hp];omega)]
      ·have cc:ZaB bA (fun b=>sz A<=b) (x0,x1,x2,x3,x4,()) r:=by
         have aj:∀ {x:Sl} {n:Nat} {vs:List Value},Own Q (sz A) x n vs->Row bA x n vs/\inS (fun b=>sz A<=b) x:=fun o=>⟨o.row.ext aR,fun _ b X=>(o.lt X).1⟩
         rw [hr]
         exact ⟨aj oa,aj ob,⟨fc,rfl,aj oc,fun p hp=>aj (ic p hp)⟩,aj od,⟨fe,rfl,aj oe,fun p hp=>aj (ie p hp)⟩⟩
       exact (cc.keep fun b X hl=>Zt aW hl fun e=>by omega).mono fun b _ X=>by omega
      ·exact aV.updS aW fun j hj=>by omega
   ·
    have bQ:sz h<=sz B:=d.size
    have aE:Ext R B:=hh.updS d (by rintro j (e | e)<;>omega)
    have he:e≠0:=by rcases ZjI (rd:=ZhI) (fun k v e h=>by unfold ZhI at h;split at h<;>cases h;exact .inl rfl) a with w | w<;>omega
    obtain ⟨Tp,cp⟩:Box B H.size (.pointer (At h7.size)):=(aO.ext L.ext).upd d (by rintro (e | e)<;>omega)
    have aF:=ZG (Zn cz L.ext) d (by rintro (e | e)<;>omega)
    obtain ⟨Te,ce⟩:=c
    refine rP (Zb cp rfl) (Zo (rI (Zb ce rfl) (Zm (by simp;omega) (rP (Zb cp rfl) (Zo (rI (Zb ce rfl) (ZfK aF (by show 5<=5;omega) rfl fun cd c53 aZ z53=>?_)))))))
    refine ⟨⟨?_,trivial⟩,Zf9 (Box.upd ⟨Tp,cp⟩ aZ (by omega)),Za (Za (Za ?_))⟩
    ·rw [Zai]
     exact Zb (ZG ce aZ (by omega)) rfl
    ·refine rL (s:=⟨none,0,0⟩) (Zb c53 rfl) (rL (s:=⟨none,0,0⟩) (Zb c53 rfl) (rL (s:=⟨none,0,0⟩) (Zb c53 rfl) (rL (s:=⟨none,0,0⟩) (Zb c53 rfl) (rL (s:=⟨none,0,0⟩) (Zb c53 rfl) (bad 0 0 e cd (by unfold Zho;rw [a]) he (aE.updS aZ fun j hj=>by omega))))))
end Go.Proofs.YtpjbjdheeemdiaaGreatDoor
namespace Go.Js
open Go
end Go.Js
namespace Go.Proofs.YtpjbjdheeemdiaaGreatDoor
open Go Go.Fw Go.Js
section
variable {h:Zc}
end
end Go.Proofs.YtpjbjdheeemdiaaGreatDoor
namespace Go.Js
open Go
def JL.app:JL->JL->JL
  | .nil,r=>r
  | .cons k t ns s l,r=> .cons k t ns s (l.app r)
theorem JL.app_snoc (v:JV):∀ (l:JL) (r:JL),(l.snoc v).app r=l.app (.cons v.k v.t v.ns v.sub r)
  | .nil,r=>rfl
  | .cons k t ns s l,r=>by show JL.cons k t ns s ((l.snoc v).app r)=_;rw [JL.app_snoc v l r];rfl
theorem JL.app_nil:∀ l:JL,l.app .nil=l
  | .nil=>rfl
  | .cons k t ns s l=>by show JL.cons k t ns s (l.app .nil)=_;rw [JL.app_nil l]
end Go.Js
namespace Go.Proofs.YtpjbjdheeemdiaaGreatDoor
open Go Go.Fw Go.Js
section
variable {h:Zc}
end
end Go.Proofs.YtpjbjdheeemdiaaGreatDoor
namespace Go.Proofs.YtpjbjdheeemdiaaGreatDoor
open Go Go.Fw Go.Js
def fr (h:Zc) (a:Nat) (j:Nat):Prop:=a<=j/\j<sz h
section
variable {h:Zc}
theorem Zc4 {S:Nat->Prop}:inS S ⟨none,0,0⟩:=fun a=>absurd rfl a
theorem Zst {x:Sl} {n bytes:Nat} {vs zs:List Value} {T:TypeId} (c:Row h x n vs) (i:vs.all Ye=true) (k:zs.length=n) (l:x.len*bytes<=140737488355328) (q:x.len<=140737488355328) {K:Sl->HP}
    (e:∀ y h',Ext h h'->Own h' (sz h) y n vs->K y h'):Zy x.ptr.isNone (K ⟨none,0,0⟩ h) (newC h [] T fun b d=>rdS x n d fun new=>app T n bytes zs ⟨some ⟨b,0,none⟩,0,0⟩ x.len new d K):=by
  cases hp:x.ptr with
  | none =>
    refine Zm rfl (e _ h (Ext.refl _) ?_)
    have:vs=[]:=by
      rcases c.at_ with m | ⟨b,o,f,_⟩
      ·exact c.nil_of m
      ·rw [hp] at f;cases f
    rw [this]
    exact Own.nil _ _ _
  | some a =>
    refine Zl rfl (YZ fun d c2 g z2=>(c.ext g).rd ?_)
    have own:Own d (sz h) ⟨some ⟨h.size,0,none⟩,0,0⟩ n []:=⟨by simp,Aqo _,by show 0<9223372036854775808;decide,.inr ⟨_,_,_,rfl,Aqo _,c2,by simp,by simp⟩⟩
    have r:sz h=h.size:=rfl
    refine own.app (by have:=c.len;omega) i k (by show (0+x.len)*bytes<=_;rw [Awb];exact l) (by show 0+x.len<=_;omega) (by omega) fun y h' o _ u _=>e y h' (g.updS u fun j p=>?_) (by simpa using o)
    have:h.size=j:=by simpa [Sl.blk] using p
    omega
theorem ZGA (ns:List BL):(ns.map sV).all Ye=true:=by
  rw [Axc]
  intro v b
  obtain ⟨a,_,rfl⟩:=Ayw.1 b
  rfl
theorem Zj2 {x:Sl} {ns:List BL} (a:Row h x 1 (ns.map sV)) (c:ns.length<=1000000000000) {K:Sl->HP} (b:∀ y h',Ext h h'->Own h' (sz h) y 1 (ns.map sV)->K y h'):Yr x K h:=by
  unfold Yr Zav
  have:=Zb3 a
  exact Zst a (ZGA ns) rfl (by omega) (by omega) b
theorem ZyS {S:Nat->Prop}:∀ {l:JL} {vs:List Value},XC h S l vs->vs.all Ye=true
  | .nil,vs,e=>by rw [show vs=[] from e];rfl
  | .cons k t ns s r,vs,e=>by
    obtain ⟨x,y,c,a,b,_,_,_,_,_,g⟩:=e
    rw [b,Azo,ZcA,ZyS g]
    rfl
theorem ZnA {x:Sl} {vs:List Value} (a:Row h x 4 vs) (b:vs.all Ye=true) (d:x.len<=1000000000000) {K:Sl->HP} (c:∀ y h',Ext h h'->Own h' (sz h) y 4 vs->K y h'):Yy x K h:=by
  unfold Yy XE
  exact Zst a b rfl (by omega) (by omega) c
theorem ZyA (l:List BL):l.length<=nsW l:=by
  induction l with
  | nil=>exact Aqo _
  | cons a l b=>simp only [Aqj,nsW];omega
theorem hv4 {b:Nat} {z:VT5} {T:TypeId} {f:Nat × Nat} (c:obj h b=some (.cells (Xq z).toArray T f)) {i:Nat} {v:Value} (a:(Xq z)[i]?=some v):Yb h [(b,i,v)]:=⟨by rw [Zai];exact Zb c a,trivial⟩
theorem ZtH:∀ (m:Nat) {h:Zc} {z:VT5} {v:JV} {S:Nat->Prop} {K:VT5->HP},v.sub.hei<=m->wV v<=1000000000000->ZaS h S z v->(∀ j,S j->j<sz h) ->
    (∀ z' h',Ext h h'->ZaS h' (fr h' (sz h)) z' v->K z' h')->Zbu (m+1) z K h:=by
  have step:∀ {f126:Zjg} {v:JV},(∀ i k t ns s r,v.sub.drop i = .cons k t ns s r->∀ {h:Zc} {z:VT5} {S:Nat->Prop} {K:VT5->HP},wV ⟨k,t,ns,s⟩<=1000000000000->ZaS h S z ⟨k,t,ns,s⟩->(∀ j,S j->j<sz h)->(∀ z' h',Ext h h'->ZaS h' (fr h' (sz h)) z' ⟨k,t,ns,s⟩->K z' h')->f126 z K h) ->
      ∀ {h:Zc} {z:VT5} {S:Nat->Prop} {K:VT5->HP},wV v<=1000000000000->ZaS h S z v->(∀ j,S j->j<sz h)->(∀ z' h',Ext h h'->ZaS h' (fr h' (sz h)) z' v->K z' h')->ZfB f126 z K h:=by
    intro f126 v ao h z S K hw hv hS hk
    unfold ZfB ZhX
    have hs:sz h=h.size:=rfl
    refine YZ fun h1 c1 e1 z1=>YZ fun L c3 e3 z3=>?_
    have aq:=e1.trans e3
    have bI:sz h1=h1.size:=rfl
    have bJ:sz L=L.size:=rfl
    have V:obj L h.size=some (.cells (Xq z).toArray 33 (0,0)):=Zn c1 e3
    have cz:obj L h1.size=some (.cells zV.toArray 33 (0,0)):=c3
    obtain ⟨a1,a2,a3,a4,cx,a5,a6,a7⟩:=id hv
    have bN:z.2.2.1.len=v.sub.len:=by have:=a5.len;have:=a7.len;omega
    have bd:=a5.big
    have bf:=a5.cap
    have bO:=Zey v.sub
    have bP:=Zox v
    have ar:v.ns.length<=1000000000000:=by have:=ZyA v.ns;unfold wV at hw;omega
    have C:∀ {a:Zc},Ext h a->∀ j,S j->j<sz h->obj a j=obj h j:=fun e j A g=>Zu e g
    have ae:Row L z.2.2.2.1 1 (v.ns.map sV):=Ym a3 a4 (C aq)
    refine ZO (fun p h'=>Ext L h'/\∃ (ob:Nat) (y:Sl),p.1=At ob/\sz L<=ob/\obj h' ob=some (.cells (Xq (z.1,z.2.1,⟨none,0,0⟩,y,())).toArray 33 (0,0))/\Own h' (sz L) y 1 (v.ns.map sV)/\y.blk≠some ob) ?_ ?_
    ·rintro ⟨op,u⟩ w ⟨W,ob,y,au,bQ,co,X,aJ⟩
     dsimp only at au ⊢
     subst au
     have af:=aq.trans W
     have bg:sz w=w.size:=rfl
     have bh:=W.size
     have av:=Zn V W
     have aw:=Zn cz W
     have bj:=ZaK co
     refine rL (s:=z.2.2.1) (Zb av rfl) (Zv (fun p h'=>∃ (i:Nat) (dn:JL) (vs:List Value) (l:Sl),p.1=i/\dn.len=i/\dn.app (v.sub.drop i)=v.sub/\obj h' ob=some (.cells (Xq (z.1,z.2.1,l,y,())).toArray 33 (0,0))/\Own h' (sz w) l 4 vs /\
         XC h' (fun j=>sz w<=j/\j<sz h'/\l.blk≠some j) dn vs/\Upd (· = ob) w h') (fun p _=>(v.sub.len - p.1).toNat)
       ⟨0,.nil,[],⟨none,0,0⟩,rfl,rfl,rfl,co,Own.nil _ _ _,rfl,Upd.refl _ _⟩ ?_)
     rintro ⟨i_,u⟩ q ⟨i,dn,vs,l,hi,aK,M,B,ol,aj,G⟩
     dsimp only at hi ⊢
     subst hi
     have bm:sz q=q.size:=rfl
     have bo:sz w<=sz q:=G.size
     have bp:Upd (· = ob) h q:=UN af G
     have D:Ext h q:=af.updS G fun j A=>by omega
     have bR:l.len=dn.len:=by have:=ol.len;have:=aj.len;omega
     have E:∀ {j:Nat},l.blk=some j->sz w<=j/\j<sz q:=fun e=>ol.lt e
     refine Zq (fun bS=>?_) fun N=>?_
     ·have aL:i<v.sub.len:=by omega
      obtain ⟨k,t,ns,s,r,hd⟩:=JL.drop_cons aL
      refine ZgR (Ym a5 a6 (C D)) (a7.keep (C D) fun j A=>A) hd rfl fun zi aM=>YZ fun ax c28 aN z28=>ZfK c28 (by show 4<=4;omega) rfl fun H aO aP bT=>?_
      have bq:sz ax=ax.size:=rfl
      have bs:sz H=H.size:=rfl
      have o:Ext q H:=aN.updS aP fun j A=>by subst A;exact Aqo _
      have F:obj H q.size=some (.cells (Xq zi).toArray 33 (0,0)):=aO
      have ag:=Zn B o
      refine Zo (rL (s:=l) (Zb ag rfl) (rI (Zb F rfl) (rS (Zb F rfl) (rL (s:=zi.2.2.1) (Zb F rfl) (rL (s:=zi.2.2.2.1) (Zb F rfl) ?_)))))
      have ak:ZaS H S zi ⟨k,t,ns,s⟩:=aM.keep (fun b _ g=>Zu o g) fun _ h=>h
      refine ao i k t ns s r hd (S:=S) (by have:=Zxs i hd;omega) ak (fun j A=>by have:=hS j A;have:=D.size;have:=o.size;omega) fun z6 O Y aR=>?_
      have bt:sz O=O.size:=rfl
      have P:=Zn ag Y
      have bw:sz H<=sz O:=Y.size
      refine ⟨⟨by rw [Zai];exact Zb P rfl,trivial⟩,?_⟩
      have ay:Own O (sz w) l 4 vs:=ol.congr fun b f g _=>Zu (o.trans Y) g
      refine YZ fun I c40 Q z40=>⟨⟨by rw [Zai];exact Zb (Zn P Q) rfl,trivial⟩,?_⟩
      have bx:sz I=I.size:=rfl
      have az:obj I O.size=some (.cells (Xq z6).toArray 33 (0,0)):=c40
      refine Zjm az rfl ((ay.congr fun b f g _=>Zu Q g).app (n:=1) rfl (ZcA z6) rfl (by omega) (by omega) (by omega) fun l8 Z o8 bV u8 b8=>?_)
      have bz:sz Z=Z.size:=rfl
      have bA:sz I<=sz Z:=u8.size
      have aA:obj Z ob=some (.cells (Xq (z.1,z.2.1,l,y,())).toArray 33 (0,0)):=ZG (Zn P Q) u8 fun e=>by have:=(E e).1;omega
      refine Zo (Zk2 aA (by simp [Xq]) rfl fun aT aU aa bX=>?_)
      rw [YA (by omega) (by omega)]
      have aB:∀ j,l8.blk=some j->l.blk=some j\/j=I.size:=fun j A=>by
        rcases b8 with R | R
        ·left;rw [<- R];exact A
        ·right;rw [R] at A;exact (Option.some.inj A).symm
      have T:Ext q I:=o.trans (Y.trans Q)
      refine ⟨⟨i+1,dn.snoc ⟨k,t,ns,s⟩,vs++Xq z6,l8,rfl,by rw [JL.len_snoc,aK],?_,aU,?_,?_,?_⟩,by omega⟩
      ·rw [JL.app_snoc,JL.drop_succ i v.sub hd,<- hd]
       exact M
      ·exact o8.congr fun b f g N=>Zt aa g fun e=>by omega
      ·refine XC.snoc (aR.keep (S':=fun j=>sz w<=j/\j<sz aT/\l8.blk≠some j) (fun b f g=>?_) fun b f=>?_) (aj.keep (fun b f g=>?_) fun b f=>?_)
       ·have bY:=f.1
        rw [Zt aa (by omega) (by omega),Zt u8 (by omega) fun R=>by have:=(E R).2;omega]
        exact Zu Q g
       ·obtain ⟨q1,q2⟩:=f
        refine ⟨by omega,by omega,fun R=>?_⟩
        rcases aB b R with U | U
        ·have:=(E U).2;omega
        ·omega
       ·rw [Zt aa (by omega) (by omega),Zt u8 (by omega) fun R=>f.2.2 R]
        exact Zu T g
       ·refine ⟨f.1,by omega,fun R=>?_⟩
        rcases aB b R with U | U
        ·exact f.2.2 U
        ·omega
      ·refine UT (UT (G.trans (T.upd _)) u8 fun j A=> .inr (E A).1) aa fun j A=> .inl A
     ·rw [JL.drop_nil (by omega),JL.app_nil] at M
      subst M
      have ah:Own q (sz L) y 1 (v.ns.map sV):=X.congr fun b f g _=>Zt G g fun e=>aJ (e▸f)
      have aC:=ZG aw G (by omega)
      refine Zo (rI (Zb B rfl) (rS (Zb B rfl) (rL (s:=l) (Zb B rfl) (rL (s:=y) (Zb B rfl) (ZbF (x:=l) (y:=y) aC rfl fun h7 u7 z7=>hk (z.1,z.2.1,l,y,()) h7 (D.updS u7 fun j A=>by omega) ?_)))))
      have bB:h1.size<sz L:=by omega
      refine ⟨a1,a2,(ah.congr fun b f g N=>Zt u7 g fun e=>by omega).row,fun _ b f=>?_,vs,(ol.congr fun b f g N=>Zt u7 g fun e=>by omega).row,fun _ b f=>?_,aj.keep (fun b f g=>Zt u7 g fun e=>by have:=f.1;omega) fun b f=>?_⟩
      ·have:=ah.lt f;exact ⟨by omega,by omega⟩
      ·have:=ol.lt f;exact ⟨by omega,by omega⟩
      ·exact ⟨by omega,by omega⟩
    ·refine rI (Zb V rfl) (rS (Zb V rfl) (rL (s:=z.2.2.2.1) (Zb V rfl) ⟨?_,?_⟩))
     ·refine Zj2 ae ar fun y h8 e8 X=>?_
      have ab:=Zn V e8
      have ca:sz h8=h8.size:=rfl
      refine ⟨hv4 ab rfl,hv4 ab rfl,YZ fun cb aW ad cc=>⟨hv4 (Zn ab ad) rfl,hv4 (Zn ab ad) rfl,ZfK aW (by show 4<=4;omega) rfl fun cd aX aD cf=>?_⟩⟩
      have cg:sz L<=sz h8:=e8.size
      refine ⟨(e8.trans ad).updS aD fun j A=>by omega,h8.size,y,rfl,by omega,aX,(X.congr fun b _ f _=>Zu ad f).congr fun b f g N=>Zt aD g fun e=>?_,fun e=>?_⟩
      ·have:=X.lt f;omega
      ·have:=X.lt e;omega
     ·refine YZ fun aE aY J cj=>⟨hv4 (Zn V J) rfl,hv4 (Zn V J) rfl,hv4 (Zn V J) rfl,?_⟩
      have bC:sz aE=aE.size:=rfl
      refine Zj2 (ae.ext J) ar fun y ck al X=>?_
      have ai:=Zn (Zn V J) al
      refine ⟨hv4 ai rfl,hv4 ai rfl,ZfK (Zn aY al) (by show 4<=4;omega) rfl fun cl aZ u16 cm=>?_⟩
      refine ⟨(J.trans al).updS u16 fun j A=>by omega,L.size,y,rfl,by omega,aZ,(X.base (by omega)).congr fun b f g N=>Zt u16 g fun e=>?_,fun e=>?_⟩
      ·have:=X.lt f;omega
      ·have:=X.lt e;omega
  intro m
  induction m with
  | zero =>
    intro h z v S K hm
    exact step (f126:=Zbu 0) fun i k t ns s r hd=>by have:=JL.drop_hei i v.sub hd;omega
  | succ m ih =>
    intro h z v S K hm
    exact step (f126:=Zbu (m+1)) fun i k t ns s r hd=>fun a b c d=>ih (v:=⟨k,t,ns,s⟩) (by have:=JL.drop_hei i v.sub hd;show s.hei<=m;omega) a b c d
end
end Go.Proofs.YtpjbjdheeemdiaaGreatDoor
