/- An argument that is rules. -/
import Derived.Test.YtpjbjdheeemdiaaGreatDoorPa14
set_option linter.unusedVariables false
set_option linter.unusedSimpArgs false
namespace Go.Js
open Go
def FlowP.rng (f:FlowP):Prop:=Zim f.cnt/\f.strat<256/\f.shape<256/\Zim f.warm/\Zim f.queue/\Zim f.id
def YJ.rng (f:YJ):Prop:=f.grade<256/\Zim f.cnt/\Zim f.slow/\Zim f.least/\Zim f.window/\Zim f.recover
def ZeP.rng (f:ZeP):Prop:=Zim f.index/\Zim f.cnt/\Zim f.secs/\∀ p,p∈f.items->Zim p.2
def Xi.rng (f:Xi):Prop:=Zim f.qps/\Zim f.threads/\Zim f.rt/\Zim f.load/\Zim f.cpu
def RulesP.rng (r:RulesP):Prop:=(∀ f,f∈r.fl->f.rng)/\(∀ f,f∈r.br->f.rng)/\(∀ f,f∈r.ho->f.rng)/\∀ f,f∈r.sy->f.rng
def FlowP.wt (f:FlowP):Nat:=1+f.res.length+f.org.length+f.ref.length
def YJ.wt (f:YJ):Nat:=1+f.res.length
def ZhF (p:BL × Int):Nat:=1+p.1.length
def ZeP.wt (f:ZeP):Nat:=1+f.res.length+(f.items.map ZhF).sum
def Zka (t:BL):Nat:=1+t.length
def Za2.wt (f:Za2):Nat:=1+f.res.length+(f.origins.map Zka).sum
def RulesP.wt (r:RulesP):Nat:=(r.fl.map FlowP.wt).sum+(r.br.map YJ.wt).sum+(r.ho.map ZeP.wt).sum+(r.sy.map fun _=>1).sum+(r.li.map Za2.wt).sum
end Go.Js
namespace Go.Proofs.YtpjbjdheeemdiaaGreatDoor
open Go Go.Fw Go.Js Go.ChangeShapes Go.WideShapes
def StT (P:Program) (t:TypeId) (tys:List TypeId):Prop:=∃ fs:Array Field,P.underlying t=some (.struct fs)/\fs.toList.map (fun f=>(f.type,f.offset))=tys.zipIdx/\P.cellsOf t=tys.length
section
variable {H:Type} {enc:TypeId × Value->H} {P:Program} {w:World} {base:Nat} {spare:Nat->Bool} {held:Bool}
def ZAX (f:TypeId->Value->Option (DataW H × List MemPlace)):List TypeId->List Value->List (DataW H × List MemPlace)->Prop
  | [],[],[]=>True
  | u::us,c::cs,x::xs=>f u c=some x/\ZAX f us cs xs
  | _,_,_=>False
theorem ZAX.inv {f:TypeId->Value->Option (DataW H × List MemPlace)} {u:TypeId} {us:List TypeId} {cs:List Value} {xs:List (DataW H × List MemPlace)} (h:ZAX f (u::us) cs xs):∃ c cs' x xs',cs=c::cs'/\xs=x::xs'/\f u c=some x/\ZAX f us cs' xs':=by
  match cs,xs,h with
  | c::cs,x::xs,h=>exact ⟨c,cs,x,xs,rfl,rfl,h.1,h.2⟩
theorem ZAX.nil {f:TypeId->Value->Option (DataW H × List MemPlace)} {cs:List Value} {xs:List (DataW H × List MemPlace)} (h:ZAX f [] cs xs):cs=[]/\xs=[]:=by
  match cs,xs,h with
  | [],[],_=>exact ⟨rfl,rfl⟩
theorem Zyl {f:TypeId->Value->Option (DataW H × List MemPlace)}:∀ (tys:List TypeId) (cs:List Value) (xs:List (DataW H × List MemPlace)),cs.length=tys.length->xs.length=tys.length ->
    (∀ (i:Nat) u c x,tys[i]?=some u->cs[i]?=some c->xs[i]?=some x->f u c=some x)->ZAX f tys cs xs
  | [],[],[],_,_,_=>trivial
  | u::us,c::cs,x::xs,h1,h2,h=>⟨h 0 u c x rfl rfl rfl,Zyl us cs xs (by simpa using h1) (by simpa using h2) fun i u c x a b d=>h (i+1) u c x (by simpa using a) (by simpa using b) (by simpa using d)⟩
  | [],_::_,_,h,_,_=>by simp at h
  | [],[],_::_,_,h,_=>by simp at h
  | _::_,[],_,h,_,_=>by simp at h
  | _::_,_::_,[],_,h,_=>by simp at h
theorem fieldsOf {t:TypeId} {tys:List TypeId} {fuel:Nat} {cs:List Value} {x:DataW H × List MemPlace} (st:StT P t tys) (h1:∀ u,u∈tys->P.cellsOf u=1) (h:DataW.trod enc P w base spare held fuel t cs=some x) :
    ∃ (n:Nat) (xs:List (DataW H × List MemPlace)),ZAX (fun u c=>DataW.trod enc P w base spare held n u [c]) tys cs xs/\Rows.uptoBulk x.1=Rows.uptoBulkAll (xs.map (·.1))+1:=by
  obtain ⟨fs,ht,hf,hc⟩:=st
  obtain ⟨xs,n,rfl,rfl,hlen,hxl,hall⟩:=DataW.trod_struct ht h
  have hfl:fs.size=tys.length:=by
    have:=congrArg List.length hf
    simpa using this
  refine ⟨n,xs,Zyl tys cs xs (by omega) (by omega) fun i u c x a b d=>?_,by simp only [Rows.uptoBulk]⟩
  obtain ⟨f,g1,g2,g3⟩:=ZDx hf (i:=i) (p:=(u,i)) (by rw [List.getElem?_zipIdx,a];simp)
  have:=hall i f g1
  rw [g2,g3,h1 u (Axq a),d] at this
  rw [<- this]
  congr 1
  obtain ⟨hi,rfl⟩:=Azj.1 b
  rw [Ayl hi]
  rfl
theorem ZCE {n:Nat} {ts:TypeId} {c:Value} {x:DataW H × List MemPlace} (ht:P.underlying ts=some .string) (h:DataW.trod enc P w base spare held n ts [c]=some x):∃ s:BL,c=sV s/\Rows.uptoBulk x.1=Rows.uptoBulk (.lit (.string s):DataW H):=by
  obtain ⟨s,h1,h2,_⟩:=DataW.trod_string ht h
  simp at h1
  subst h1
  exact ⟨s.data.toList,rfl,by rw [h2]⟩
theorem ZoT {n:Nat} {ti:TypeId} {c:Value} {x:DataW H × List MemPlace} (ht:P.underlying ti=some (.int .i64)) (h:DataW.trod enc P w base spare held n ti [c]=some x):∃ s:Int,c=i64 s/\Zim s:=by
  obtain ⟨s,h1,h2,h3⟩:=DataW.trod_int ht h
  simp at h1
  subst h1
  have:=ZEE h3
  exact ⟨s,rfl,by unfold Zim;omega⟩
theorem tU8 {n:Nat} {ti:TypeId} {c:Value} {x:DataW H × List MemPlace} (ht:P.underlying ti=some (.int .u8)) (h:DataW.trod enc P w base spare held n ti [c]=some x):∃ s:Nat,c=i8 s/\s<256:=by
  obtain ⟨s,h1,h2,h3⟩:=DataW.trod_int ht h
  simp at h1
  subst h1
  have:=ZLD h3
  exact ⟨s.toNat,by unfold i8;rw [Axf this.1],by omega⟩
theorem Zy7 {n:Nat} {ti:TypeId} {c:Value} {x:DataW H × List MemPlace} (ht:P.underlying ti=some .bool) (h:DataW.trod enc P w base spare held n ti [c]=some x):∃ s:Bool,c = .bool s:=by
  obtain ⟨s,h1,h2⟩:=DataW.trod_bool ht h
  simp at h1
  exact ⟨s,h1⟩
theorem tSl {u e:TypeId} {n:Nat} {c:Value} {y:DataW H × List MemPlace} (hu:P.underlying u=some (.slice e)) (hy:DataW.trod enc P w base spare held n u [c]=some y):∃ s:Sl,c=slV s:=by
  rcases Deep.open_slice hu hy with ⟨hcs,_⟩ | ⟨a',len',cap',m,n',D,Pl,hcs,_⟩
  ·simp at hcs;exact ⟨⟨none,0,0⟩,hcs⟩
  ·simp at hcs;exact ⟨⟨some a',len',cap'⟩,hcs⟩
theorem ZfP (s:BL):s.length+1<=Rows.uptoBulk (.lit (.string s):DataW H):=by
  simp only [Rows.uptoBulk];omega
structure TyR (P:Program) (tR tF tB tH tY tL tI ts tb ti tsg tsh tg sF sB sH sY sL sI sT:TypeId):Prop where
  R:StT P tR [sF,sB,sH,sY,sL]
  F:StT P tF [ts,ts,tb,ti,tsg,ts,tsh,ti,ti,tb,ti,tb]
  B:StT P tB [ts,tg,ti,ti,ti,ti,ti]
  H:StT P tH [ts,ti,ti,ti,sI]
  Y:StT P tY [ti,ti,ti,ti,ti]
  L:StT P tL [ts,tb,sT]
  I:StT P tI [ts,ti]
  s:P.underlying ts=some .string
  b:P.underlying tb=some .bool
  i:P.underlying ti=some (.int .i64)
  sg:P.underlying tsg=some (.int .u8)
  sh:P.underlying tsh=some (.int .u8)
  g:P.underlying tg=some (.int .u8)
  lF:P.underlying sF=some (.slice tF)
  lB:P.underlying sB=some (.slice tB)
  lH:P.underlying sH=some (.slice tH)
  lY:P.underlying sY=some (.slice tY)
  lL:P.underlying sL=some (.slice tL)
  lI:P.underlying sI=some (.slice tI)
  lT:P.underlying sT=some (.slice ts)
  one:([ts,tb,ti,tsg,tsh,tg,sF,sB,sH,sY,sL,sI,sT].all fun u=>P.cellsOf u ==1)=true
variable {tR tF tB tH tY tL tI ts tb ti tsg tsh tg sF sB sH sY sL sI sT:TypeId}
theorem TyR.o (T:TyR P tR tF tB tH tY tL tI ts tb ti tsg tsh tg sF sB sH sY sL sI sT) {tys:List TypeId} (h:∀ u,u∈tys->u∈[ts,tb,ti,tsg,tsh,tg,sF,sB,sH,sY,sL,sI,sT]):∀ u,u∈tys->P.cellsOf u=1:=fun u hu=>by
  simpa using Axc.1 T.one u (h u hu)
theorem ZAe (T:TyR P tR tF tB tH tY tL tI ts tb ti tsg tsh tg sF sB sH sY sL sI sT) {fuel:Nat} {cs:List Value} {x:DataW H × List MemPlace} (h:DataW.trod enc P w base spare held fuel tF cs=some x):∃ a:FlowP,cs=Zdx a/\a.rng/\a.wt<=16*Rows.uptoBulk x.1:=by
  obtain ⟨n,xs,hf,hb⟩:=fieldsOf T.F (T.o fun u hu=>by simp only [Awr] at hu ⊢;rcases hu with h | h | h | h | h | h | h | h | h | h | h | h | h<;>simp_all) h
  obtain ⟨_,cs,x1,xs,rfl,rfl,h1,hf⟩:=hf.inv
  obtain ⟨_,cs,x2,xs,rfl,rfl,h2,hf⟩:=hf.inv
  obtain ⟨_,cs,x3,xs,rfl,rfl,h3,hf⟩:=hf.inv
  obtain ⟨_,cs,x4,xs,rfl,rfl,h4,hf⟩:=hf.inv
  obtain ⟨_,cs,x5,xs,rfl,rfl,h5,hf⟩:=hf.inv
  obtain ⟨_,cs,x6,xs,rfl,rfl,h6,hf⟩:=hf.inv
  obtain ⟨_,cs,x7,xs,rfl,rfl,h7,hf⟩:=hf.inv
  obtain ⟨_,cs,x8,xs,rfl,rfl,h8,hf⟩:=hf.inv
  obtain ⟨_,cs,x9,xs,rfl,rfl,h9,hf⟩:=hf.inv
  obtain ⟨_,cs,x10,xs,rfl,rfl,h10,hf⟩:=hf.inv
  obtain ⟨_,cs,x11,xs,rfl,rfl,h11,hf⟩:=hf.inv
  obtain ⟨_,cs,x12,xs,rfl,rfl,h12,hf⟩:=hf.inv
  obtain ⟨rfl,rfl⟩:=hf.nil
  obtain ⟨a1,rfl,b1⟩:=ZCE T.s h1
  obtain ⟨a2,rfl,b2⟩:=ZCE T.s h2
  obtain ⟨a3,rfl⟩:=Zy7 T.b h3
  obtain ⟨a4,rfl,r4⟩:=ZoT T.i h4
  obtain ⟨a5,rfl,r5⟩:=tU8 T.sg h5
  obtain ⟨a6,rfl,b6⟩:=ZCE T.s h6
  obtain ⟨a7,rfl,r7⟩:=tU8 T.sh h7
  obtain ⟨a8,rfl,r8⟩:=ZoT T.i h8
  obtain ⟨a9,rfl,r9⟩:=ZoT T.i h9
  obtain ⟨a10,rfl⟩:=Zy7 T.b h10
  obtain ⟨a11,rfl,r11⟩:=ZoT T.i h11
  obtain ⟨a12,rfl⟩:=Zy7 T.b h12
  refine ⟨⟨a1,a2,a3,a4,a5,a6,a7,a8,a9,a10,a11,a12⟩,rfl,⟨r4,r5,r7,r8,r9,r11⟩,?_⟩
  have l1:=ZfP (H:=H) a1
  have l2:=ZfP (H:=H) a2
  have l6:=ZfP (H:=H) a6
  simp only [Awo,Rows.uptoBulkAll] at hb
  simp only [FlowP.wt]
  omega
theorem Zyj (T:TyR P tR tF tB tH tY tL tI ts tb ti tsg tsh tg sF sB sH sY sL sI sT) {fuel:Nat} {cs:List Value} {x:DataW H × List MemPlace} (h:DataW.trod enc P w base spare held fuel tB cs=some x):∃ a:YJ,cs=Zcc a/\a.rng/\a.wt<=16*Rows.uptoBulk x.1:=by
  obtain ⟨n,xs,hf,hb⟩:=fieldsOf T.B (T.o fun u hu=>by simp only [Awr] at hu ⊢;rcases hu with h | h | h | h | h | h | h | h<;>simp_all) h
  obtain ⟨_,cs,x1,xs,rfl,rfl,h1,hf⟩:=hf.inv
  obtain ⟨_,cs,x2,xs,rfl,rfl,h2,hf⟩:=hf.inv
  obtain ⟨_,cs,x3,xs,rfl,rfl,h3,hf⟩:=hf.inv
  obtain ⟨_,cs,x4,xs,rfl,rfl,h4,hf⟩:=hf.inv
  obtain ⟨_,cs,x5,xs,rfl,rfl,h5,hf⟩:=hf.inv
  obtain ⟨_,cs,x6,xs,rfl,rfl,h6,hf⟩:=hf.inv
  obtain ⟨_,cs,x7,xs,rfl,rfl,h7,hf⟩:=hf.inv
  obtain ⟨rfl,rfl⟩:=hf.nil
  obtain ⟨a1,rfl,b1⟩:=ZCE T.s h1
  obtain ⟨a2,rfl,r2⟩:=tU8 T.g h2
  obtain ⟨a3,rfl,r3⟩:=ZoT T.i h3
  obtain ⟨a4,rfl,r4⟩:=ZoT T.i h4
  obtain ⟨a5,rfl,r5⟩:=ZoT T.i h5
  obtain ⟨a6,rfl,r6⟩:=ZoT T.i h6
  obtain ⟨a7,rfl,r7⟩:=ZoT T.i h7
  refine ⟨⟨a1,a2,a3,a4,a5,a6,a7⟩,rfl,⟨r2,r3,r4,r5,r6,r7⟩,?_⟩
  have l1:=ZfP (H:=H) a1
  simp only [Awo,Rows.uptoBulkAll] at hb
  simp only [YJ.wt]
  omega
theorem Zul (T:TyR P tR tF tB tH tY tL tI ts tb ti tsg tsh tg sF sB sH sY sL sI sT) {fuel:Nat} {cs:List Value} {x:DataW H × List MemPlace} (h:DataW.trod enc P w base spare held fuel tY cs=some x):∃ a:Xi,cs=Zbw a/\a.rng/\1<=16*Rows.uptoBulk x.1:=by
  obtain ⟨n,xs,hf,hb⟩:=fieldsOf T.Y (T.o fun u hu=>by simp only [Awr] at hu ⊢;rcases hu with h | h | h | h | h | h<;>simp_all) h
  obtain ⟨_,cs,x1,xs,rfl,rfl,h1,hf⟩:=hf.inv
  obtain ⟨_,cs,x2,xs,rfl,rfl,h2,hf⟩:=hf.inv
  obtain ⟨_,cs,x3,xs,rfl,rfl,h3,hf⟩:=hf.inv
  obtain ⟨_,cs,x4,xs,rfl,rfl,h4,hf⟩:=hf.inv
  obtain ⟨_,cs,x5,xs,rfl,rfl,h5,hf⟩:=hf.inv
  obtain ⟨rfl,rfl⟩:=hf.nil
  obtain ⟨a1,rfl,r1⟩:=ZoT T.i h1
  obtain ⟨a2,rfl,r2⟩:=ZoT T.i h2
  obtain ⟨a3,rfl,r3⟩:=ZoT T.i h3
  obtain ⟨a4,rfl,r4⟩:=ZoT T.i h4
  obtain ⟨a5,rfl,r5⟩:=ZoT T.i h5
  exact ⟨⟨a1,a2,a3,a4,a5⟩,rfl,⟨r1,r2,r3,r4,r5⟩,by omega⟩
theorem ZAd (T:TyR P tR tF tB tH tY tL tI ts tb ti tsg tsh tg sF sB sH sY sL sI sT) {fuel:Nat} {cs:List Value} {x:DataW H × List MemPlace} (h:DataW.trod enc P w base spare held fuel tI cs=some x):∃ a:BL × Int,cs=[sV a.1,i64 a.2]/\Zim a.2/\ZhF a<=16*Rows.uptoBulk x.1:=by
  obtain ⟨n,xs,hf,hb⟩:=fieldsOf T.I (T.o fun u hu=>by simp only [Awr] at hu ⊢;rcases hu with h | h | h<;>simp_all) h
  obtain ⟨_,cs,x1,xs,rfl,rfl,h1,hf⟩:=hf.inv
  obtain ⟨_,cs,x2,xs,rfl,rfl,h2,hf⟩:=hf.inv
  obtain ⟨rfl,rfl⟩:=hf.nil
  obtain ⟨a1,rfl,b1⟩:=ZCE T.s h1
  obtain ⟨a2,rfl,r2⟩:=ZoT T.i h2
  refine ⟨(a1,a2),rfl,r2,?_⟩
  have l1:=ZfP (H:=H) a1
  simp only [Awo,Rows.uptoBulkAll] at hb
  simp only [ZhF]
  omega
theorem ZDG (T:TyR P tR tF tB tH tY tL tI ts tb ti tsg tsh tg sF sB sH sY sL sI sT) {fuel:Nat} {cs:List Value} {x:DataW H × List MemPlace} (h:DataW.trod enc P w base spare held fuel tH cs=some x) :
    ∃ a:Sl × ZeP,cs=Zkw a/\(a.2.rng/\ZFX w.heap (fun b=>b<sz w.heap) a)/\a.2.wt<=16*Rows.uptoBulk x.1:=by
  obtain ⟨n,xs,hf,hb⟩:=fieldsOf T.H (T.o fun u hu=>by simp only [Awr] at hu ⊢;rcases hu with h | h | h | h | h | h<;>simp_all) h
  obtain ⟨_,cs,x1,xs,rfl,rfl,h1,hf⟩:=hf.inv
  obtain ⟨_,cs,x2,xs,rfl,rfl,h2,hf⟩:=hf.inv
  obtain ⟨_,cs,x3,xs,rfl,rfl,h3,hf⟩:=hf.inv
  obtain ⟨_,cs,x4,xs,rfl,rfl,h4,hf⟩:=hf.inv
  obtain ⟨_,cs,x5,xs,rfl,rfl,h5,hf⟩:=hf.inv
  obtain ⟨rfl,rfl⟩:=hf.nil
  obtain ⟨a1,rfl,b1⟩:=ZCE T.s h1
  obtain ⟨a2,rfl,r2⟩:=ZoT T.i h2
  obtain ⟨a3,rfl,r3⟩:=ZoT T.i h3
  obtain ⟨a4,rfl,r4⟩:=ZoT T.i h4
  obtain ⟨s5,rfl⟩:=tSl T.lI h5
  obtain ⟨fs,hI1,hI2,hI3⟩:=T.I
  obtain ⟨il,⟨ir,ip⟩,ib⟩:=Zg5 (α:=BL × Int) (g:=fun p=>[sV p.1,i64 p.2]) (n:=2) (Pa:=fun p=>Zim p.2) (μ:=ZhF) (N:=Rows.uptoBulk x5.1) (fun _=>rfl) (by decide) T.lI hI3 (fun {fuel cs y} _ h=>by
    obtain ⟨a,e,r,b⟩:=ZAd T h
    exact ⟨a,e,r,b⟩) (Aqo _) h5
  refine ⟨(s5,⟨a1,a2,a3,a4,il⟩),rfl,⟨⟨r2,r3,r4,ip⟩,ir,Zi8 ir (by decide)⟩,?_⟩
  have l1:=ZfP (H:=H) a1
  simp only [Awo,Rows.uptoBulkAll] at hb
  simp only [ZeP.wt]
  omega
theorem ZAc (T:TyR P tR tF tB tH tY tL tI ts tb ti tsg tsh tg sF sB sH sY sL sI sT) {fuel:Nat} {cs:List Value} {x:DataW H × List MemPlace} (h:DataW.trod enc P w base spare held fuel tL cs=some x) :
    ∃ a:Sl × Za2,cs=ZfF a/\Ztd w.heap (fun b=>b<sz w.heap) a/\a.2.wt<=16*Rows.uptoBulk x.1:=by
  obtain ⟨n,xs,hf,hb⟩:=fieldsOf T.L (T.o fun u hu=>by simp only [Awr] at hu ⊢;rcases hu with h | h | h | h<;>simp_all) h
  obtain ⟨_,cs,x1,xs,rfl,rfl,h1,hf⟩:=hf.inv
  obtain ⟨_,cs,x2,xs,rfl,rfl,h2,hf⟩:=hf.inv
  obtain ⟨_,cs,x3,xs,rfl,rfl,h3,hf⟩:=hf.inv
  obtain ⟨rfl,rfl⟩:=hf.nil
  obtain ⟨a1,rfl,b1⟩:=ZCE T.s h1
  obtain ⟨a2,rfl⟩:=Zy7 T.b h2
  obtain ⟨s3,rfl⟩:=tSl T.lT h3
  obtain ⟨nl,⟨nr,_⟩,nb⟩:=Zg5 (α:=BL) (g:=fun n=>[sV n]) (n:=1) (Pa:=fun _=>True) (μ:=Zka) (N:=Rows.uptoBulk x3.1) (fun _=>rfl) (by decide) T.lT (T.o (tys:=[ts]) (by simp) ts (by simp)) (fun {fuel cs y} _ h=>by
    obtain ⟨s,hs',he,_⟩:=DataW.trod_string T.s h
    refine ⟨s.data.toList,by rw [hs'],trivial,?_⟩
    rw [he]
    have:=ZfP (H:=H) s.data.toList
    simp only [Zka]
    omega) (Aqo _) h3
  have nr':Row w.heap s3 1 (nl.map sV):=by rw [<- ZxQ];exact nr
  refine ⟨(s3,⟨a1,a2,nl⟩),rfl,⟨nr',Zi8 nr' (by decide)⟩,?_⟩
  have l1:=ZfP (H:=H) a1
  simp only [Awo,Rows.uptoBulkAll] at hb
  simp only [Za2.wt]
  omega
def Zac (z:VTR):List Value:=[slV z.1,slV z.2.1,slV z.2.2.1,slV z.2.2.2.1,slV z.2.2.2.2.1]
theorem Zyi (T:TyR P tR tF tB tH tY tL tI ts tb ti tsg tsh tg sF sB sH sY sL sI sT) {fuel:Nat} {cs:List Value} {x:DataW H × List MemPlace} (h:DataW.trod enc P w base spare held fuel tR cs=some x) :
    ∃ (z:VTR) (r:RulesP),cs=Zac z/\Zat w.heap (fun b=>b<sz w.heap) z r/\r.rng/\r.wt<=16*Rows.uptoBulk x.1:=by
  obtain ⟨n,xs,hf,hb⟩:=fieldsOf T.R (T.o fun u hu=>by simp only [Awr] at hu ⊢;rcases hu with h | h | h | h | h | h<;>simp_all) h
  obtain ⟨_,cs,x1,xs,rfl,rfl,h1,hf⟩:=hf.inv
  obtain ⟨_,cs,x2,xs,rfl,rfl,h2,hf⟩:=hf.inv
  obtain ⟨_,cs,x3,xs,rfl,rfl,h3,hf⟩:=hf.inv
  obtain ⟨_,cs,x4,xs,rfl,rfl,h4,hf⟩:=hf.inv
  obtain ⟨_,cs,x5,xs,rfl,rfl,h5,hf⟩:=hf.inv
  obtain ⟨rfl,rfl⟩:=hf.nil
  obtain ⟨s1,rfl⟩:=tSl T.lF h1
  obtain ⟨s2,rfl⟩:=tSl T.lB h2
  obtain ⟨s3,rfl⟩:=tSl T.lH h3
  obtain ⟨s4,rfl⟩:=tSl T.lY h4
  obtain ⟨s5,rfl⟩:=tSl T.lL h5
  haveI:Inhabited FlowP:=⟨⟨[],[],false,0,0,[],0,0,0,false,0,false⟩⟩
  haveI:Inhabited YJ:=⟨⟨[],0,0,0,0,0,0⟩⟩
  haveI:Inhabited Xi:=⟨⟨0,0,0,0,0⟩⟩
  haveI:Inhabited (Sl × ZeP):=⟨(⟨none,0,0⟩,⟨[],0,0,0,[]⟩)⟩
  haveI:Inhabited (Sl × Za2):=⟨(⟨none,0,0⟩,⟨[],false,[]⟩)⟩
  obtain ⟨f1,⟨r1,p1⟩,b1⟩:=Zg5 (α:=FlowP) (g:=Zdx) (n:=12) (Pa:=FlowP.rng) (μ:=FlowP.wt) (N:=Rows.uptoBulk x1.1) (fun _=>rfl) (by decide) T.lF T.F.choose_spec.2.2 (fun {fuel cs y} _ h=>ZAe T h) (Aqo _) h1
  obtain ⟨f2,⟨r2,p2⟩,b2⟩:=Zg5 (α:=YJ) (g:=Zcc) (n:=7) (Pa:=YJ.rng) (μ:=YJ.wt) (N:=Rows.uptoBulk x2.1) (fun _=>rfl) (by decide) T.lB T.B.choose_spec.2.2 (fun {fuel cs y} _ h=>Zyj T h) (Aqo _) h2
  obtain ⟨f3,⟨r3,p3⟩,b3⟩:=Zg5 (α:=Sl × ZeP) (g:=Zkw) (n:=5) (Pa:=fun a=>a.2.rng/\ZFX w.heap (fun b=>b<sz w.heap) a) (μ:=fun a=>a.2.wt) (N:=Rows.uptoBulk x3.1) (fun _=>rfl) (by decide) T.lH T.H.choose_spec.2.2 (fun {fuel cs y} _ h=>ZDG T h) (Aqo _) h3
  obtain ⟨f4,⟨r4,p4⟩,b4⟩:=Zg5 (α:=Xi) (g:=Zbw) (n:=5) (Pa:=Xi.rng) (μ:=fun _=>1) (N:=Rows.uptoBulk x4.1) (fun _=>rfl) (by decide) T.lY T.Y.choose_spec.2.2 (fun {fuel cs y} _ h=>Zul T h) (Aqo _) h4
  obtain ⟨f5,⟨r5,p5⟩,b5⟩:=Zg5 (α:=Sl × Za2) (g:=ZfF) (n:=3) (Pa:=fun a=>Ztd w.heap (fun b=>b<sz w.heap) a) (μ:=fun a=>a.2.wt) (N:=Rows.uptoBulk x5.1) (fun _=>rfl) (by decide) T.lL T.L.choose_spec.2.2 (fun {fuel cs y} _ h=>ZAc T h) (Aqo _) h5
  refine ⟨(s1,s2,s3,s4,s5,()),⟨f1,f2,f3.map (·.2),f4,f5.map (·.2)⟩,rfl,⟨⟨r1,Zi8 r1 (by decide)⟩,⟨r2,Zi8 r2 (by decide)⟩,⟨f3,rfl,⟨r3,Zi8 r3 (by decide)⟩,fun p hp=>(p3 p hp).2⟩,⟨r4,Zi8 r4 (by decide)⟩,⟨f5,rfl,⟨r5,Zi8 r5 (by decide)⟩,p5⟩⟩,⟨p1,p2,fun f hf=>?_,p4⟩,?_⟩
  ·obtain ⟨p,hp,rfl⟩:=Ayw.1 hf
   exact (p3 p hp).1
  ·simp only [Awo,Azz,Rows.uptoBulkAll] at hb
   simp only [RulesP.wt,Azp]
   have e3:(f3.map (ZeP.wt ∘ fun x=>x.2)).sum=(f3.map fun a=>a.2.wt).sum:=rfl
   have e5:(f5.map (Za2.wt ∘ fun x=>x.2)).sum=(f5.map fun a=>a.2.wt).sum:=rfl
   omega
end
end Go.Proofs.YtpjbjdheeemdiaaGreatDoor
namespace Go.Js
open Go
def Zmk:List (List Nat)->Nat->Option Nat
  | [],_=>none
  | es::r,k=>if 256<es.length then some k else Zmk r (k+1)
def ZDy:List (List Nat)->Nat->Option (Nat × Nat × Nat)
  | [],_=>none
  | es::r,k=>match Zdw id es 0 with
    | some (i,e)=>some (k,i,e)
    | none=>ZDy r (k+1)
def Zo9 (gs:List (List Nat)):Nat × Nat × Nat:=match Zmk gs 1 with
  | some k=>(k,0,5)
  | none=>(ZDy gs 1).getD (0,0,0)
def RulesP.errs (r:RulesP):List (List Nat):=[r.fl.map FlowP.err,r.br.map YJ.err,r.ho.map ZeP.err,r.sy.map Xi.err,r.li.map Za2.err]
theorem Znj {α:Type} (f:α->Nat):∀ (l:List α) (i:Nat),Zdw id (l.map f) i=Zdw f l i
  | [],_=>rfl
  | a::l,i=>by
    simp only [Awo,Zdw,id]
    rw [Znj f l]
theorem ZnG (r:RulesP):r.whereE=Zo9 r.errs:=by
  unfold RulesP.whereE Zo9 RulesP.errs
  simp only [Zmk,ZDy,Ayx,Znj]
  split
  ·rfl
  ·split
   ·rfl
   ·split
    ·rfl
    ·split
     ·rfl
     ·split
      ·rfl
      ·cases Zdw FlowP.err r.fl 0 with
       | some p=>rfl
       | none=>cases Zdw YJ.err r.br 0 with
         | some p=>rfl
         | none=>cases Zdw ZeP.err r.ho 0 with
           | some p=>rfl
           | none=>cases Zdw Xi.err r.sy 0 with
             | some p=>rfl
             | none=>cases Zdw Za2.err r.li 0 with
               | some p=>rfl
               | none=>rfl
theorem Zm7 {gs:List (List Nat)} {i k:Nat} {es:List Nat} (h:gs[i]?=some es):Zmk (gs.drop i) k=if 256<es.length then some k else Zmk (gs.drop (i+1)) (k+1):=by
  obtain ⟨hi,rfl⟩:=Azj.1 h
  rw [Ayl hi]
  rfl
theorem ZxU {gs:List (List Nat)} {i k:Nat} {es:List Nat} (h:gs[i]?=some es):ZDy (gs.drop i) k=match Zdw id es 0 with
    | some (i,e)=>some (k,i,e)
    | none=>ZDy (gs.drop (i+1)) (k+1):=by
  obtain ⟨hi,rfl⟩:=Azj.1 h
  rw [Ayl hi]
  rfl
theorem ZlL {es:List Nat} {i k e:Nat} (h:es[i]?=some e):Zdw id (es.drop i) k=if e=0 then Zdw id (es.drop (i+1)) (k+1) else some (k,e):=by
  obtain ⟨hi,rfl⟩:=Azj.1 h
  rw [Ayl hi]
  rfl
end Go.Js
namespace Go.Proofs.YtpjbjdheeemdiaaGreatDoor
open Go Go.Fw Go.Js
section
variable {h:Zc}
theorem ZbN {α:Type} {c:α->List Value} {n:Nat} (hc:∀ a,(c a).length=n) {l:List α} {x:Sl} (hr:Row h x n (l.flatMap c)) (hn:0<n) {i:Nat} {a:α} (ha:l[i]?=some a) {k:Int} (hk:k=i) {P:Nat->Nat->Prop}
    (hP:∀ b o,(∀ m v,(c a)[m]?=some v->h.cell b (o+m)=some v)->P b o):ZcM x.ptr x.len k n P:=by
  have hl:=hr.len
  rw [ZeM hc] at hl
  have hi:=ZxD ha
  have hxl:x.len=l.length:=Ava hn hl.symm
  rcases hr.at_ with h0 | ⟨b,o,hptr,hh⟩
  ·omega
  ·rw [hptr]
   refine ZlC (n:=i) hk (by omega) (hP b _ fun m v hv=>?_)
   have hm:m<n:=by rw [<- hc a];exact ZxD hv
   have:=ZhH hh (i:=i*n+m) (by rw [ZlK hc l i m a ha hm];exact hv)
   rw [<- Aqh] at this
   exact this
theorem ZaA {α:Type} {c:α->List Value} {n:Nat} (hc:∀ a,(c a).length=n) {l:List α} {x:Sl} (hr:Row h x n (l.flatMap c)) (hn:0<n):x.len=l.length:=by
  have hl:=hr.len
  rw [ZeM hc] at hl
  exact Ava hn hl.symm
def ZDW (cl:Value) (i:Int) (K:Int->HP) (h:Zc):Prop :=
  (exG cl (fun c:Option Addr × Unit=> .func (.func 217) #[] ⟨[.pointer c.1]⟩) fun c=>ZbT i c.1 K h)\/(
  (exG cl (fun c:Option Addr × Unit=> .func (.func 219) #[] ⟨[.pointer c.1]⟩) fun c=>ZbS i c.1 K h)\/(
  (exG cl (fun c:Option Addr × Unit=> .func (.func 221) #[] ⟨[.pointer c.1]⟩) fun c=>ZbR i c.1 K h)\/(
  (exG cl (fun c:Option Addr × Unit=> .func (.func 223) #[] ⟨[.pointer c.1]⟩) fun c=>ZbQ i c.1 K h)\/(
  (exG cl (fun c:Option Addr × Unit=> .func (.func 225) #[] ⟨[.pointer c.1]⟩) fun c=>ZbP i c.1 K h)\/False))))
def RulesP.fit (r:RulesP):Prop:=(∀ f,f∈r.fl->f.res.length<9223372036854775807/\f.org.length<9223372036854775807/\f.ref.length<9223372036854775807)/\(∀ f,f∈r.br->f.res.length<9223372036854775807) /\
  (∀ f,f∈r.ho->f.res.length<9223372036854775807/\f.items.length<=1000000000000)/\∀ f,f∈r.li->f.res.length<9223372036854775807/\∀ n,n∈f.origins->n.length<9223372036854775807
theorem Zqd {α:Type} {f:α->Nat} {l:List α} {j e:Nat} (h:(l.map f)[j]?=some e):∃ a,l[j]?=some a/\e=f a:=by
  rw [Awz,Ayc] at h
  obtain ⟨a,h1,h2⟩:=h
  exact ⟨a,h1,h2.symm⟩
abbrev clG (F gb:Nat):Value:= .func (.func F) #[] #[.pointer (At gb)]
theorem ZDn {z:VTR} {r:RulesP} {S:Nat->Prop} (hr:Zat h S z r) (hf:Go.Proofs.YtpjbjdheeemdiaaGreatDoor.RulesP.fit r) {gb:Nat} {T:TypeId} (c:obj h gb=some (.cells (Zac z).toArray T (0,0))) {j e:Nat} (he:(r.fl.map FlowP.err)[j]?=some e) {K:Int->HP} (hk:∀ h',Ext h h'->K e h') :
    ZDW (clG 217 gb) j K h:=by
  obtain ⟨a,ha,rfl⟩:=Zqd he
  refine .inl ⟨(At gb,()),rfl,?_⟩
  unfold ZbT ZeJ
  refine Za (Zu (rL (s:=z.1) (Zb c rfl) (ZbN (c:=Zdx) (fun _=>rfl) hr.fl.1 (by decide) ha rfl fun b o g=>?_)))
  refine ⟨_,g 0 _ rfl,_,g 1 _ rfl,_,g 2 _ rfl,_,g 3 _ rfl,_,g 4 _ rfl,_,g 5 _ rfl,_,g 6 _ rfl,_,g 7 _ rfl,_,g 8 _ rfl,_,g 9 _ rfl,_,g 10 _ rfl,_,g 11 _ rfl,?_⟩
  exact Zp7 (f:=a) (hf.1 a (Axq ha)) fun h' e'=>Za (hk h' e')
theorem ZDm {z:VTR} {r:RulesP} {S:Nat->Prop} (hr:Zat h S z r) (hf:Go.Proofs.YtpjbjdheeemdiaaGreatDoor.RulesP.fit r) {gb:Nat} {T:TypeId} (c:obj h gb=some (.cells (Zac z).toArray T (0,0))) {j e:Nat} (he:(r.br.map YJ.err)[j]?=some e) {K:Int->HP} (hk:∀ h',Ext h h'->K e h') :
    ZDW (clG 219 gb) j K h:=by
  obtain ⟨a,ha,rfl⟩:=Zqd he
  refine .inr (.inl ⟨(At gb,()),rfl,?_⟩)
  unfold ZbS ZeI
  refine Za (Zu (rL (s:=z.2.1) (Zb c rfl) (ZbN (c:=Zcc) (fun _=>rfl) hr.br.1 (by decide) ha rfl fun b o g=>?_)))
  refine ⟨_,g 0 _ rfl,_,g 1 _ rfl,_,g 2 _ rfl,_,g 3 _ rfl,_,g 4 _ rfl,_,g 5 _ rfl,_,g 6 _ rfl,?_⟩
  exact ZoL (f:=a) (hf.2.1 a (Axq ha)) fun h' e'=>Za (hk h' e')
theorem ZDl {z:VTR} {r:RulesP} {S:Nat->Prop} (hr:Zat h S z r) (hf:Go.Proofs.YtpjbjdheeemdiaaGreatDoor.RulesP.fit r) {gb:Nat} {T:TypeId} (c:obj h gb=some (.cells (Zac z).toArray T (0,0))) {j e:Nat} (he:(r.ho.map ZeP.err)[j]?=some e) {K:Int->HP} (hk:∀ h',Ext h h'->K e h') :
    ZDW (clG 221 gb) j K h:=by
  obtain ⟨a,ha,rfl⟩:=Zqd he
  obtain ⟨hp,h1,h2,h3⟩:=hr.ho
  rw [<- h1,Awz,Ayc] at ha
  obtain ⟨p,ha,rfl⟩:=ha
  refine .inr (.inr (.inl ⟨(At gb,()),rfl,?_⟩))
  unfold ZbR ZeH
  refine Za (Zu (rL (s:=z.2.2.1) (Zb c rfl) (ZbN (c:=Zkw) (fun _=>rfl) h2.1 (by decide) ha rfl fun b o g=>?_)))
  refine ⟨_,g 0 _ rfl,_,g 1 _ rfl,_,g 2 _ rfl,_,g 3 _ rfl,p.1,g 4 _ rfl,?_⟩
  have hm:=Axq ha
  have hf3:=hf.2.2.1 p.2 (by rw [<- h1];exact Ayw.2 ⟨p,hm,rfl⟩)
  exact Zrs (f:=p.2) (x:=p.1) hf3.1 hf3.2 (h3 p hm).1 fun h' e'=>Za (hk h' e')
theorem ZDk {z:VTR} {r:RulesP} {S:Nat->Prop} (hr:Zat h S z r) {gb:Nat} {T:TypeId} (c:obj h gb=some (.cells (Zac z).toArray T (0,0))) {j e:Nat} (he:(r.sy.map Xi.err)[j]?=some e) {K:Int->HP} (hk:∀ h',Ext h h'->K e h') :
    ZDW (clG 223 gb) j K h:=by
  obtain ⟨a,ha,rfl⟩:=Zqd he
  refine .inr (.inr (.inr (.inl ⟨(At gb,()),rfl,?_⟩)))
  unfold ZbQ ZeG
  refine Za (Zu (rL (s:=z.2.2.2.1) (Zb c rfl) (ZbN (c:=Zbw) (fun _=>rfl) hr.sy.1 (by decide) ha rfl fun b o g=>?_)))
  refine ⟨_,g 0 _ rfl,_,g 1 _ rfl,_,g 2 _ rfl,_,g 3 _ rfl,_,g 4 _ rfl,?_⟩
  exact Zma (f:=a) fun h' e'=>Za (hk h' e')
theorem ZDj {z:VTR} {r:RulesP} {S:Nat->Prop} (hr:Zat h S z r) (hf:Go.Proofs.YtpjbjdheeemdiaaGreatDoor.RulesP.fit r) {gb:Nat} {T:TypeId} (c:obj h gb=some (.cells (Zac z).toArray T (0,0))) {j e:Nat} (he:(r.li.map Za2.err)[j]?=some e) {K:Int->HP} (hk:∀ h',Ext h h'->K e h') :
    ZDW (clG 225 gb) j K h:=by
  obtain ⟨a,ha,rfl⟩:=Zqd he
  obtain ⟨lp,h1,h2,h3⟩:=hr.li
  rw [<- h1,Awz,Ayc] at ha
  obtain ⟨p,ha,rfl⟩:=ha
  refine .inr (.inr (.inr (.inr (.inl ⟨(At gb,()),rfl,?_⟩))))
  unfold ZbP ZeF
  refine Za (Zu (rL (s:=z.2.2.2.2.1) (Zb c rfl) (ZbN (c:=ZfF) (fun _=>rfl) h2.1 (by decide) ha rfl fun b o g=>?_)))
  refine ⟨_,g 0 _ rfl,_,g 1 _ rfl,p.1,g 2 _ rfl,?_⟩
  have hm:=Axq ha
  exact ZpP (f:=p.2) (x:=p.1) (hf.2.2.2 p.2 (by rw [<- h1];exact Ayw.2 ⟨p,hm,rfl⟩)) (h3 p hm).1 fun h' e'=>Za (hk h' e')
def ZFt (p:Nat × List Nat × Value):List Value:=[i8 p.1,i64 (p.2.1.length:Int),p.2.2]
def Zqv (r:RulesP) (gb:Nat):List (Nat × List Nat × Value):=[(1,r.fl.map FlowP.err,clG 217 gb),(2,r.br.map YJ.err,clG 219 gb),(3,r.ho.map ZeP.err,clG 221 gb),(4,r.sy.map Xi.err,clG 223 gb),(5,r.li.map Za2.err,clG 225 gb)]
theorem Zru {z:VTR} {r:RulesP} {S:Nat->Prop} (hr:Zat h S z r) {K:Sl->HP}
    (hk:∀ x gb h',Ext h h'->obj h' gb=some (.cells (Zac z).toArray 28 (0,0))->Row h' x 3 ((Zqv r gb).flatMap ZFt)->K x h'):ZcZ z K h:=by
  unfold ZcZ ZfY
  refine YX fun h1 c1 e1 z1=>?_
  have cb:obj h1 h.size=some (.cells (Zac z).toArray 28 (0,0)):=c1
  refine rL (s:=z.1) (Zb cb rfl) ⟨rfl,rL (s:=z.2.1) (Zb cb rfl) ⟨rfl,rL (s:=z.2.2.1) (Zb cb rfl) ⟨rfl,rL (s:=z.2.2.2.1) (Zb cb rfl) ⟨rfl,rL (s:=z.2.2.2.2.1) (Zb cb rfl) ⟨rfl,YX fun h7 c7 e7 z7=>?_⟩⟩⟩⟩⟩
  have l1:=ZaA (c:=Zdx) (n:=12) (fun _=>rfl) hr.fl.1 (by decide)
  have l2:=ZaA (c:=Zcc) (n:=7) (fun _=>rfl) hr.br.1 (by decide)
  have l4:=ZaA (c:=Zbw) (n:=5) (fun _=>rfl) hr.sy.1 (by decide)
  obtain ⟨hp,q1,q2,q3⟩:=hr.ho
  obtain ⟨lp,p1,p2,p3⟩:=hr.li
  have l3:=ZaA (c:=Zkw) (n:=5) (fun _=>rfl) q2.1 (by decide)
  have l5:=ZaA (c:=ZfF) (n:=3) (fun _=>rfl) p2.1 (by decide)
  have m3:hp.length=r.ho.length:=by rw [<- q1];simp
  have m5:lp.length=r.li.length:=by rw [<- p1];simp
  rw [l1,l2,l3,l4,l5,m3,m5] at c7
  refine hk _ h.size h7 (e1.trans e7) (Zl cb e7) ⟨rfl,Aqo _,by show 5<_;omega,.inr ⟨_,0,rfl,ZdR c7 fun i v hi=>?_⟩⟩
  rw [Awb]
  simpa [Zqv,ZFt,i8,i64,Ayx] using hi
theorem Ztk {z:VTR} {r:RulesP} {S:Nat->Prop} (hr:Zat h S z r) (hf:Go.Proofs.YtpjbjdheeemdiaaGreatDoor.RulesP.fit r) {K:Int->Int->Int->HP} (hk:∀ h' (p:Nat × Nat × Nat),p=r.whereE->Ext h h'->K p.1 p.2.1 p.2.2 h'):ZdG z K h:=by
  unfold ZdG ZgQ
  refine YX fun h1 c1 e1 z1=>Za (Za (Za ?_))
  have cb:obj h1 h.size=some (.cells (Zac z).toArray 28 (0,0)):=c1
  refine rL (s:=z.1) (Zb cb rfl) (rL (s:=z.2.1) (Zb cb rfl) (rL (s:=z.2.2.1) (Zb cb rfl) (rL (s:=z.2.2.2.1) (Zb cb rfl) (rL (s:=z.2.2.2.2.1) (Zb cb rfl) (Zru (z:=z) (hr.ext e1) fun x gb h10 e10 cg row=>?_)))))
  have e010:=e1.trans e10
  have hx:x.len=5:=ZaA (c:=ZFt) (n:=3) (fun _=>rfl) row (by decide)
  have hgs:(Zqv r gb).map (·.2.1)=r.errs:=rfl
  have hkey:∀ (i:Nat) p,(Zqv r gb)[i]?=some p->p.1=i+1:=fun i p hp=>by
    match i,hp with
    | 0,hp=>cases hp;rfl
    | 1,hp=>cases hp;rfl
    | 2,hp=>cases hp;rfl
    | 3,hp=>cases hp;rfl
    | 4,hp=>cases hp;rfl
    | n+5,hp=>cases hp
  have hes:∀ (i:Nat) p,(Zqv r gb)[i]?=some p->r.errs[i]?=some p.2.1:=fun i p hp=>by rw [<- hgs,Awz,hp];rfl
  have hone:∀ (i:Nat) p,(Zqv r gb)[i]?=some p->Yc p.2.2=true:=fun i p hp=>by
    have hm:=Axq hp
    simp only [Zqv,Awr,Azi,or_false] at hm
    rcases hm with rfl | rfl | rfl | rfl | rfl<;>rfl
  have hcall:∀ p,p∈Zqv r gb->∀ {h':Zc} {j e:Nat} {K:Int->HP},Ext h10 h'->p.2.1[j]?=some e->(∀ h'',Ext h' h''->K e h'')->ZDW p.2.2 j K h':=fun p hp h' j e K e' he k=>by
    have rr:=hr.ext (e010.trans e')
    have c:=Zl cg e'
    simp only [Zqv,Awr,Azi,or_false] at hp
    rcases hp with rfl | rfl | rfl | rfl | rfl
    ·exact ZDn rr hf c he k
    ·exact ZDm rr hf c he k
    ·exact ZDl rr hf c he k
    ·exact ZDk rr c he k
    ·exact ZDj rr hf c he k
  have hl5:(Zqv r gb).length=5:=rfl
  refine Zv (fun p h'=>Ext h10 h'/\∃ i:Nat,p.1=i/\i<=5/\Zmk (r.errs.drop i) (i+1)=Zmk r.errs 1) (fun p _=>(5 - p.1).toNat) ⟨Ext.refl _,0,rfl,Ayk _,rfl⟩ ?_
  rintro ⟨i_,u⟩ h12 ⟨e12,i,hi,hil,hq⟩
  dsimp only at hi ⊢
  subst hi
  refine Zt (fun hlt=>?_) fun hge=>?_
  ·have hia:i<(Zqv r gb).length:=by omega
   obtain ⟨p,hp⟩:∃ p,(Zqv r gb)[i]?=some p:=⟨(Zqv r gb)[i],Ayb hia⟩
   have hpe:=hes i p hp
   have hpk:=hkey i p hp
   refine ZbN (c:=ZFt) (fun _=>rfl) (row.ext e12) (by decide) hp rfl fun b o g=>⟨_,g 0 _ rfl,_,g 1 _ rfl,_,g 2 _ rfl,YX fun h18 c18 e18 z18=>ZeW c18 (by show 3<=3;omega) (by show (true&&(true&&(Yc p.2.2&&true)))=true;rw [hone i p hp];rfl) fun h19 c19 u19 z19=>?_⟩
   have e1219:Ext h12 h19:=e18.updS u19 fun j hj=>by subst hj;exact Aqo _
   have e019:=e010.trans (e12.trans e1219)
   refine rI (Zb c19 rfl) (Zt (fun hgt=>rI (Zb c19 rfl) (Za (Za (Za ?_)))) fun hle=>?_)
   ·rw [Zm7 hpe,if_pos (by omega)] at hq
    have:r.whereE=(i+1,0,5):=by rw [ZnG];unfold Zo9;rw [<- hq]
    rw [hpk]
    exact hk h19 (i+1,0,5) this.symm e019
   ·rw [Zm7 hpe,if_neg (by omega)] at hq
    rw [Yt (by omega) (by omega)]
    exact ⟨⟨e12.trans e1219,i+1,rfl,by omega,hq⟩,by omega⟩
  ·have:i=5:=by omega
   subst this
   have hlong:Zmk r.errs 1=none:=by rw [<- hq];rfl
   have e012:=e010.trans e12
   refine Zv (fun p h'=>Ext h10 h'/\∃ i:Nat,p.1=i/\i<=5/\ZDy (r.errs.drop i) (i+1)=ZDy r.errs 1) (fun p _=>(5 - p.1).toNat) ⟨e12,0,rfl,Ayk _,rfl⟩ ?_
   rintro ⟨i_,u⟩ h27 ⟨e27,i,hi,hil,hq2⟩
   dsimp only at hi ⊢
   subst hi
   refine Zt (fun hlt=>?_) fun hge=>Za (Za (Za ?_))
   ·have hia:i<(Zqv r gb).length:=by omega
    obtain ⟨p,hp⟩:∃ p,(Zqv r gb)[i]?=some p:=⟨(Zqv r gb)[i],Ayb hia⟩
    have hpe:=hes i p hp
    have hpk:=hkey i p hp
    have hm:=Axq hp
    refine ZbN (c:=ZFt) (fun _=>rfl) (row.ext e27) (by decide) hp rfl fun b o g=>⟨_,g 0 _ rfl,_,g 1 _ rfl,_,g 2 _ rfl,YX fun h34 c34 e34 z34=>ZeW c34 (by show 3<=3;omega) (by show (true&&(true&&(Yc p.2.2&&true)))=true;rw [hone i p hp];rfl) fun h35 c35 u35 z35=>?_⟩
    have e2735:Ext h27 h35:=e34.updS u35 fun j hj=>by subst hj;exact Aqo _
    have e1035:=e27.trans e2735
    have hlen:p.2.1.length<=256:=by
      have hn:∀ (gs:List (List Nat)) (k:Nat),Zmk gs k=none->∀ es,es∈gs->es.length<=256:=by
        intro gs
        induction gs with
        | nil=>intro k _ es h;cases h
        | cons a gs ih =>
          intro k hk es hes
          simp only [Zmk] at hk
          split at hk
          ·cases hk
          ·rcases Awr.1 hes with rfl | h
           ·omega
           ·exact ih _ hk es h
      exact hn _ _ hlong _ (Axq hpe)
    rw [ZxU hpe] at hq2
    refine rI (Zb c35 rfl) (Zv (fun q h'=>Ext h35 h'/\∃ j:Nat,q.1=j/\j<=p.2.1.length/\Zdw id (p.2.1.drop j) j=Zdw id p.2.1 0) (fun q _=>(p.2.1.length - q.1).toNat) ⟨Ext.refl _,0,rfl,Ayk _,rfl⟩ ?_)
    rintro ⟨j_,u⟩ h39 ⟨e39,j,hj,hjl,hfq⟩
    dsimp only at hj ⊢
    subst hj
    have c39:=Zl c35 e39
    refine Zt (fun hlt=>Za ?_) fun hge=>?_
    ·have hja:j<p.2.1.length:=by omega
     obtain ⟨e,he⟩:∃ e,p.2.1[j]?=some e:=⟨p.2.1[j],Ayb hja⟩
     refine rV (n:=p.2.2) (Zb c39 rfl) ?_
     refine hcall p hm (e1035.trans e39) he fun h41 e41=>Za (Zax (fun hne=>?_) fun heq=>?_)
     ·have c41:=Zl c39 e41
      refine rI (Zb c41 rfl) (Za (Za (Za ?_)))
      rw [ZlL he,if_neg (by omega)] at hfq
      rw [<- hfq] at hq2
      have:r.whereE=(i+1,j,e):=by
        rw [ZnG]
        unfold Zo9
        rw [hlong,<- hq2]
        rfl
      rw [hpk]
      exact hk h41 (i+1,j,e) this.symm (e010.trans (e1035.trans (e39.trans e41)))
     ·rw [ZlL he,if_pos (by omega)] at hfq
      rw [Yt (by omega) (by omega)]
      exact ⟨⟨e39.trans e41,j+1,rfl,by omega,hfq⟩,by omega⟩
    ·have:j=p.2.1.length:=by omega
     subst this
     rw [Aym] at hfq
     rw [<- hfq] at hq2
     rw [Yt (by omega) (by omega)]
     exact ⟨⟨e1035.trans e39,i+1,rfl,by omega,hq2⟩,by omega⟩
   ·have:i=5:=by omega
    subst this
    have:r.whereE=(0,0,0):=by
      rw [ZnG]
      unfold Zo9
      rw [hlong,<- hq2]
      rfl
    exact hk h27 (0,0,0) this.symm (e010.trans e27)
end
end Go.Proofs.YtpjbjdheeemdiaaGreatDoor
namespace Go.Js
open Go
def MV.fits (N:Nat):MV->Prop
  | .t s=>s.length<=N
  | .ts l=>∀ s,s∈l->s.length<=N
  | .is l=>l.length<=N
  | _=>True
theorem MV.fits_mono {N M:Nat} (h:N<=M):∀ {x:MV},x.fits N->x.fits M
  | .t _,a=>Aqp a h
  | .ts _,a=>fun s hs=>Aqp (a s hs) h
  | .is _,a=>Aqp a h
  | .n _,_=>trivial
  | .b _,_=>trivial
  | .w _,_=>trivial
theorem Zoo {α β:Type} {f:α->Except Nat β}:∀ {l:List α} {r:List β},Zjx f l = .ok r->r.length=l.length/\∀ b,b∈r->∃ a,a∈l/\f a = .ok b
  | [],r,h=>by cases h;exact ⟨rfl,fun b hb=>by cases hb⟩
  | a::l,r,h=>by
    simp only [Zjx] at h
    split at h
    ·cases h
    ·rename_i y hy
     split at h
     ·cases h
     ·rename_i ys hys
      cases h
      obtain ⟨h1,h2⟩:=Zoo hys
      refine ⟨by simp [h1],fun b hb=>?_⟩
      rcases Awr.1 hb with rfl | hb
      ·exact ⟨a,by simp,hy⟩
      ·obtain ⟨c,hc,e⟩:=h2 b hb
       exact ⟨c,by simp [hc],e⟩
theorem ZhR {α:Type} {f:JV->Except Nat α}:∀ {l:List JV} {i:Nat} {r:List α},Zab f l i = .ok r->∀ b,b∈r->∃ a,a∈l/\f a = .ok b
  | [],_,r,h=>by cases h;exact fun b hb=>by cases hb
  | a::l,i,r,h=>by
    simp only [Zab] at h
    split at h
    ·cases h
    ·rename_i y hy
     split at h
     ·cases h
     ·rename_i ys hys
      cases h
      intro b hb
      rcases Awr.1 hb with rfl | hb
      ·exact ⟨a,by simp,hy⟩
      ·obtain ⟨c,hc,e⟩:=ZhR hys b hb
       exact ⟨c,by simp [hc],e⟩
theorem Zwr (v:JV):v.t.length<=wV v:=by unfold wV;omega
theorem Zk4 (v:JV):pw v.sub<=wV v:=by unfold wV;omega
theorem ZtF {k:FK} {v:JV} {x:MV} (h:ZaK k v = .ok x):x.fits (wV v):=by
  cases k
  case items =>
    simp only [ZaK] at h
    split at h
    ·split at h
     ·rename_i l hl
      cases h
      have:=(Zoo hl).1
      rw [JL.list_len] at this
      have:=ZdN v.sub
      have:=Zk4 v
      show l.length<=_
      omega
     ·cases h
    ·cases h
  all_goals simp only [ZaK,Zdg] at h
  case text=>split at h<;>cases h;exact Zwr v
  case num =>
    split at h
    ·split at h<;>cases h
     trivial
    ·cases h
  case yes =>
    split at h
    ·cases h;trivial
    ·split at h<;>cases h
     trivial
  case word =>
    split at h
    ·split at h<;>cases h
     trivial
    ·cases h
  case texts =>
    split at h
    ·split at h
     ·rename_i l hl
      cases h
      intro s hs
      obtain ⟨a,ha,e⟩:=(Zoo hl).2 s hs
      unfold ZpB at e
      split at e<;>cases e
      have:=Zhb ha
      have:=Zwr a
      have:=Zk4 v
      omega
     ·cases h
    ·cases h
theorem ZmR {F:Zyu} {m0 m:List MV} {v:JV} (hF:F.length=m0.length) (h:Xp ZaK F m0 v = .ok m) {j:Nat} {x:MV} (hx:m[j]?=some x):m0[j]?=some x\/∃ a k w,F[j]?=some (a,k)/\w∈v.sub.list/\ZaK k w = .ok x:=by
  obtain ⟨_,o⟩:=(ZgI hF).1 h
  by_cases hq:∃ p k,p∈ZEe v/\Zbs p.1 F 0=some (j,k)
  ·obtain ⟨p,k,hp,hk⟩:=hq
   obtain ⟨j',k',y,h1,h2,h3⟩:=o.each p hp
   rw [hk] at h1
   cases h1
   rw [hx] at h3
   cases h3
   exact .inr ⟨_,_,_,Y2 hk,(List.of_mem_zip hp).2,h2⟩
  ·refine .inl ?_
   rw [<- o.rest j fun p hp k hk=>hq ⟨p,k,hp,hk⟩]
   exact hx
theorem ZfL {F:Zyu} {m0 m:List MV} {v:JV} (hty:F.map (·.2.sort)=m0.map MV.sort) (h:Xp ZaK F m0 v = .ok m):m.map MV.sort=m0.map MV.sort:=by
  have hF:F.length=m0.length:=by have:=congrArg List.length hty;simpa using this
  have hl:m.length=m0.length:=((ZgI hF).1 h).2.len
  refine Awy fun j=>?_
  rw [Awz,Awz]
  cases hq:m[j]? with
  | none=>rw [Aqt (by rw [<- hl];exact Azs.1 hq)]
  | some x =>
    rcases ZmR hF h hq with e | ⟨a,k,w,h1,_,h3⟩
    ·rw [e]
    ·have:(F.map (·.2.sort))[j]?=some k.sort:=by rw [Awz,h1];rfl
     rw [hty,Awz] at this
     rw [this,Aqx,ZmT h3]
theorem ZfM {F:Zyu} {m0 m:List MV} {v:JV} {N:Nat} (hF:F.length=m0.length) (h:Xp ZaK F m0 v = .ok m) (hN:wV v<=N) (h0:∀ x,x∈m0->x.fits N):∀ x,x∈m->x.fits N:=by
  intro x hx
  obtain ⟨j,hj⟩:=Azk hx
  rcases ZmR hF h hj with e | ⟨a,k,w,_,h2,h3⟩
  ·exact h0 x (Axq e)
  ·exact MV.fits_mono (by have:=Zhb h2;have:=Zk4 v;omega) (ZtF h3)
theorem ZsA {α β ε:Type} {f:α->β} {e:Except ε α} {b:β} (h:e.map f = .ok b):∃ a,e = .ok a/\b=f a:=by
  cases e with
  | error e=>cases h
  | ok a=>cases h;exact ⟨a,rfl,rfl⟩
theorem ZzR {v:JV} {f:FlowP} (h:ZaP v = .ok f) (hw:wV v<=1000000000000):f.res.length<9223372036854775807/\f.org.length<9223372036854775807/\f.ref.length<9223372036854775807:=by
  obtain ⟨m,hm,rfl⟩:=ZsA h
  have fits:=ZfM (N:=1000000000000) rfl hm hw (by intro x hx;simp only [Zp8,Awr,Azi,or_false] at hx;rcases hx with rfl | rfl | rfl | rfl | rfl | rfl | rfl | rfl | rfl | rfl | rfl | rfl<;>first | trivial | (show _<=1000000000000;decide +kernel))
  rw [Zry (ZfL (by rfl) hm)] at fits
  have a:=fits (.t (Zjl m).res) (by simp [FlowP.mv])
  have b:=fits (.t (Zjl m).org) (by simp [FlowP.mv])
  have c:=fits (.t (Zjl m).ref) (by simp [FlowP.mv])
  simp only [MV.fits] at a b c
  omega
theorem Zyb {v:JV} {f:YJ} (h:X7 v = .ok f) (hw:wV v<=1000000000000):f.res.length<9223372036854775807:=by
  obtain ⟨m,hm,rfl⟩:=ZsA h
  have fits:=ZfM (N:=1000000000000) rfl hm hw (by intro x hx;simp only [Zkj,Awr,Azi,or_false] at hx;rcases hx with rfl | rfl | rfl | rfl | rfl | rfl | rfl<;>first | trivial | (show _<=1000000000000;decide +kernel))
  rw [ZoK (ZfL (by rfl) hm)] at fits
  have a:=fits (.t (ZiR m).res) (by simp [YJ.mv])
  simp only [MV.fits] at a
  omega
theorem ZDf {v:JV} {f:ZeP} (h:Zcj v = .ok f) (hw:wV v<=1000000000000):f.res.length<9223372036854775807/\f.items.length<=1000000000000:=by
  obtain ⟨m,hm,rfl⟩:=ZsA h
  have fits:=ZfM (N:=1000000000000) rfl hm hw (by intro x hx;simp only [ZxF,Awr,Azi,or_false] at hx;rcases hx with rfl | rfl | rfl | rfl | rfl<;>first | trivial | (show _<=1000000000000;decide +kernel))
  rw [ZxE (ZfL (by rfl) hm)] at fits
  have a:=fits (.t (ZpW m).res) (by simp [ZeP.mv])
  have b:=fits (.is (ZpW m).items) (by simp [ZeP.mv])
  simp only [MV.fits] at a b
  omega
theorem ZzB {v:JV} {f:Za2} (h:ZaO v = .ok f) (hw:wV v<=1000000000000):f.res.length<9223372036854775807/\∀ n,n∈f.origins->n.length<9223372036854775807:=by
  obtain ⟨m,hm,rfl⟩:=ZsA h
  have fits:=ZfM (N:=1000000000000) rfl hm hw (by
    intro x hx
    simp only [Zos,Awr,Azi,or_false] at hx
    rcases hx with rfl | rfl | rfl
    ·show _<=1000000000000;decide +kernel
    ·trivial
    ·intro s hs;cases hs)
  rw [Zrm (ZfL (by rfl) hm)] at fits
  have a:=fits (.t (Zkf m).res) (by simp [Za2.mv])
  have b:=fits (.ts (Zkf m).origins) (by simp [Za2.mv])
  simp only [MV.fits] at a b
  exact ⟨by omega,fun n hn=>by have:=b n hn;omega⟩
theorem ZCQ {v:JV} {ls:List JL} (h:Xp Zib Zks Zlf v = .ok ls):ls.length=5/\∀ l,l∈ls->pw l<=wV v:=by
  obtain ⟨_,o⟩:=(ZgI (rd:=Zib) (F:=Zks) (m0:=Zlf) rfl).1 h
  refine ⟨o.len,fun l hl=>?_⟩
  obtain ⟨j,hj⟩:=Azk hl
  by_cases hq:∃ p k,p∈ZEe v/\Zbs p.1 Zks 0=some (j,k)
  ·obtain ⟨p,k,hp,hk⟩:=hq
   obtain ⟨j',k',y,h1,h2,h3⟩:=o.each p hp
   rw [hk] at h1
   cases h1
   rw [hj] at h3
   cases h3
   unfold Zib at h2
   split at h2<;>cases h2
   have:=Zhb (List.of_mem_zip hp).2
   have:=Zk4 p.2
   have:=Zk4 v
   omega
  ·have:=o.rest j fun p hp k hk=>hq ⟨p,k,hp,hk⟩
   rw [hj] at this
   have:l∈Zlf:=Axq this.symm
   simp only [Zlf,Awr,Azi,or_false] at this
   rcases this with rfl | rfl | rfl | rfl | rfl<;>exact Ayk _
theorem ZjN {ls:List JL} (h5:ls.length=5) {i:Nat} (hi:i<5):ls.getD i .nil∈ls:=by
  rw [Avb,Ayb (by omega)]
  exact Azl _
end Go.Js
namespace Go.Proofs.YtpjbjdheeemdiaaGreatDoor
open Go Go.Fw Go.Js
theorem Zob {ls:List JL} {N:Nat} (h5:ls.length=5) (hw:∀ l,l∈ls->pw l<=1000000000000) {a:List FlowP} {b:List YJ} {c:List ZeP} {d:List Xi} {f:List Za2} (ha:Zab ZaP (Zl5 ls 0) 0 = .ok a) (hb:Zab X7 (Zl5 ls 1) 0 = .ok b) (hc:Zab Zcj (Zl5 ls 2) 0 = .ok c) (hf:Zab ZaO (Zl5 ls 4) 0 = .ok f) :
    RulesP.fit ⟨a,b,c,d,f⟩:=by
  have wl:∀ {i:Nat} {w:JV},i<5->w∈Zl5 ls i->wV w<=1000000000000:=fun hi hm=>Aqp (Zhb hm) (hw _ (ZjN h5 hi))
  refine ⟨fun x hx=>?_,fun x hx=>?_,fun x hx=>?_,fun x hx=>?_⟩
  ·obtain ⟨w,h1,h2⟩:=ZhR ha x hx
   exact ZzR h2 (wl (by decide) h1)
  ·obtain ⟨w,h1,h2⟩:=ZhR hb x hx
   exact Zyb h2 (wl (by decide) h1)
  ·obtain ⟨w,h1,h2⟩:=ZhR hc x hx
   exact ZDf h2 (wl (by decide) h1)
  ·obtain ⟨w,h1,h2⟩:=ZhR hf x hx
   exact ZzB h2 (wl (by decide) h1)
end Go.Proofs.YtpjbjdheeemdiaaGreatDoor
namespace Go.Proofs.YtpjbjdheeemdiaaGreatDoor
open Go Go.Fw Go.Js
theorem Zi7 {B:Nat} {T:TypeId} {S:Nat->Prop} {ls:List JL} {h:Zc} (rt:ZhU B T S ls h) (h5:ls.length=5) {j:Nat} (hj:j<5):∃ v x cx,obj h B=some (.cells v T (0,0))/\v.toList[j]?=some (slV x)/\Row h x 4 cx/\inS S x/\Xm h S (ls.getD j .nil) cx:=by
  obtain ⟨vs,c,hl,g⟩:=rt
  have hg:ls[j]?=some (ls.getD j .nil):=by rw [Avb,Ayb (by omega)];rfl
  obtain ⟨v,h1,x,cx,rfl,a,b,d⟩:=g j _ hg
  exact ⟨vs.toArray,x,cx,c,h1,a,b,d⟩
theorem Zeg {h:Zc} {O:Nat} {T:TypeId} {xs ys:List Value} {j:Nat} {x:Sl} (c:obj h O=some (.cells xs.toArray T (0,0))) (hj:j<xs.length) (hy:xs.set j (slV x)=ys) {K:HP} (hk:∀ h',obj h' O=some (.cells ys.toArray T (0,0))->Upd (· = O) h h'->sz h'=sz h->K h'):st h O j (slV x) K:=by
  subst hy
  exact Zjw c hj rfl hk
theorem Zjj {h:Zc} {k:Int} {a1 a2:Option Addr} {K:(Option Addr × Option Addr × Option Addr × Unit)->HP} (hk:∀ c3 h',Ext h h'->sz h<=c3->Box h' c3 (.int .i64 k)->K (a1,a2,At c3,()) h'):XY k a1 a2 K h:=by
  unfold XY Zb8
  exact YX fun h1 c1 e1 z1=>hk h.size h1 e1 (Aqo _) ⟨_,c1⟩
def ZhV (c1 B lo:Nat) (_:Unit) (j:Nat) (v:Value) (h:Zc):Prop:=∃ c3,v = .func (.func 57) #[] #[.pointer (At c1),.pointer (At B),.pointer (At c3)]/\lo<=c3/\Box h c3 (.int .i64 (j:Int))
theorem ZhV.ext {c1 B lo:Nat} {k:Unit} {j:Nat} {v:Value} {h h':Zc} (g:ZhV c1 B lo k j v h) (u:Ext h h'):ZhV c1 B lo k j v h':=let ⟨c3,a,b,c⟩:=g;⟨c3,a,b,c.ext u⟩
theorem ZhV.map {c1 B lo:Nat} {k:Unit} {j:Nat} {v:Value} {h h':Zc} (u:ZDL h h') (g:ZhV c1 B lo k j v h):ZhV c1 B lo k j v h':=let ⟨c3,a,b,c⟩:=g;⟨c3,a,b,c.map u⟩
def ZaY:Nat->Nat:=fun j=>([5,8,11,14,17]:List Nat).getD j 1000
def Zjv (ls:List JL) (base:Nat) (x:Sl) (h:Zc):Prop:=∃ fs:List FlowP,Zab ZaP (Zl5 ls 0) 0 = .ok fs/\Own h base x 12 (fs.flatMap Zdx)
theorem Zjv.base {ls:List JL} {base base':Nat} {x:Sl} {h:Zc} (d:Zjv ls base x h) (hb:base'<=base):Zjv ls base' x h:=by
  obtain ⟨fs,a,b⟩:=d
  exact ⟨fs,a,b.base hb⟩
theorem Zjv.upd {ls:List JL} {base:Nat} {x:Sl} {U:Nat->Prop} {h h':Zc} (d:Zjv ls base x h) (u:Upd U h h') (hU:∀ b,base<=b->¬ U b):Zjv ls base x h':=by
  obtain ⟨fs,a,b⟩:=d
  exact ⟨fs,a,b.congr fun b _ hl hb=>Zo u hl (hU b hb)⟩
theorem ZDr {h:Zc} {B O:Nat} {T T2:TypeId} {S:Nat->Prop} {ls:List JL} {z:VTR} (rt:ZhU B T S ls h) (h5:ls.length=5) (hS:∀ b,S b->b<sz h) (co:obj h O=some (.cells (Zac z).toArray T2 (0,0))) (ht:ZaN h) (h9:9<=sz h) (hw:∀ l,l∈ls->pw l<=1000000000000) {K:Int->Int->HP}
    (ok:∀ x h',Zjv ls (sz h) x h'->obj h' O=some (.cells (Zac (x,z.2.1,z.2.2.1,z.2.2.2.1,z.2.2.2.2.1,())).toArray T2 (0,0))->Upd (· = O) h h'->K 0 0 h') (bad:∀ (i e:Nat) h',Zab ZaP (Zl5 ls 0) 0 = .error (i,e)->e≠0->Upd (· = O) h h'->K i e h'):XX (At B) (At O) K h:=by
  unfold XX Zb7
  obtain ⟨vs,x,cx,c,hx,row,hin,lst⟩:=Zi7 rt h5 (j:=0) (by decide)
  have hO:=ZaJ co
  have hpw:=hw _ (ZjN h5 (i:=0) (by decide))
  refine Za (Za (Zu ⟨by decide,by decide,?_⟩))
  refine rL (s:=x) (Zb (l:=vs.toList) (by simpa using c) (by simpa using hx)) ?_
  refine ZxX row hin lst hS ht h9 hpw (fun y fs h' hE own e'=>?_) fun i e h' hE hn e'=>?_
  ·refine Zu (Zeg (Zl co e') (by show _<5;omega) rfl fun h7 c7 u7 z7=>Za (Za (ok y h7 ⟨fs,hE,own.congr fun b _ hl hb=>Zo u7 hl fun e=>by omega⟩ c7 (UN e' u7))))
  ·exact Zu (Zeg (Zl co e') (by show _<5;omega) rfl fun h7 c7 u7 z7=>Za (Za (bad i e h7 hE hn (UN e' u7))))
def Zg6 (ls:List JL) (base:Nat) (x:Sl) (h:Zc):Prop:=∃ fs:List YJ,Zab X7 (Zl5 ls 1) 0 = .ok fs/\Own h base x 7 (fs.flatMap Zcc)
theorem Zg6.base {ls:List JL} {base base':Nat} {x:Sl} {h:Zc} (d:Zg6 ls base x h) (hb:base'<=base):Zg6 ls base' x h:=by
  obtain ⟨fs,a,b⟩:=d
  exact ⟨fs,a,b.base hb⟩
theorem Zg6.upd {ls:List JL} {base:Nat} {x:Sl} {U:Nat->Prop} {h h':Zc} (d:Zg6 ls base x h) (u:Upd U h h') (hU:∀ b,base<=b->¬ U b):Zg6 ls base x h':=by
  obtain ⟨fs,a,b⟩:=d
  exact ⟨fs,a,b.congr fun b _ hl hb=>Zo u hl (hU b hb)⟩
theorem ZzN {h:Zc} {B O:Nat} {T T2:TypeId} {S:Nat->Prop} {ls:List JL} {z:VTR} (rt:ZhU B T S ls h) (h5:ls.length=5) (hS:∀ b,S b->b<sz h) (co:obj h O=some (.cells (Zac z).toArray T2 (0,0))) (ht:ZaN h) (h9:9<=sz h) (hw:∀ l,l∈ls->pw l<=1000000000000) {K:Int->Int->HP}
    (ok:∀ x h',Zg6 ls (sz h) x h'->obj h' O=some (.cells (Zac (z.1,x,z.2.2.1,z.2.2.2.1,z.2.2.2.2.1,())).toArray T2 (0,0))->Upd (· = O) h h'->K 0 0 h') (bad:∀ (i e:Nat) h',Zab X7 (Zl5 ls 1) 0 = .error (i,e)->e≠0->Upd (· = O) h h'->K i e h'):XW (At B) (At O) K h:=by
  unfold XW Zb6
  obtain ⟨vs,x,cx,c,hx,row,hin,lst⟩:=Zi7 rt h5 (j:=1) (by decide)
  have hO:=ZaJ co
  have hpw:=hw _ (ZjN h5 (i:=1) (by decide))
  refine Za (Za (Zu ⟨by decide,by decide,?_⟩))
  refine rL (s:=x) (Zb (l:=vs.toList) (by simpa using c) (by simpa using hx)) ?_
  refine Zue row hin lst hS ht h9 hpw (fun y fs h' hE own e'=>?_) fun i e h' hE hn e'=>?_
  ·refine Zu (Zeg (Zl co e') (by show _<5;omega) rfl fun h7 c7 u7 z7=>Za (Za (ok y h7 ⟨fs,hE,own.congr fun b _ hl hb=>Zo u7 hl fun e=>by omega⟩ c7 (UN e' u7))))
  ·exact Zu (Zeg (Zl co e') (by show _<5;omega) rfl fun h7 c7 u7 z7=>Za (Za (bad i e h7 hE hn (UN e' u7))))
def ZoR (ls:List JL) (base:Nat) (x:Sl) (h:Zc):Prop:=∃ fs:List (Sl × ZeP),Zab Zcj (Zl5 ls 2) 0 = .ok (fs.map (·.2))/\Own h base x 5 (fs.flatMap Zkw)/\∀ p,p∈fs->Own h base p.1 2 (Ze0 p.2.items)
theorem ZoR.base {ls:List JL} {base base':Nat} {x:Sl} {h:Zc} (d:ZoR ls base x h) (hb:base'<=base):ZoR ls base' x h:=by
  obtain ⟨fs,a,b,c⟩:=d
  exact ⟨fs,a,b.base hb,fun p hp=>(c p hp).base hb⟩
theorem ZoR.upd {ls:List JL} {base:Nat} {x:Sl} {U:Nat->Prop} {h h':Zc} (d:ZoR ls base x h) (u:Upd U h h') (hU:∀ b,base<=b->¬ U b):ZoR ls base x h':=by
  obtain ⟨fs,a,b,c⟩:=d
  exact ⟨fs,a,b.congr fun b _ hl hb=>Zo u hl (hU b hb),fun p hp=>(c p hp).congr fun b _ hl hb=>Zo u hl (hU b hb)⟩
theorem ZFv {h:Zc} {B O:Nat} {T T2:TypeId} {S:Nat->Prop} {ls:List JL} {z:VTR} (rt:ZhU B T S ls h) (h5:ls.length=5) (hS:∀ b,S b->b<sz h) (co:obj h O=some (.cells (Zac z).toArray T2 (0,0))) (ht:ZaN h) (h9:9<=sz h) (hw:∀ l,l∈ls->pw l<=1000000000000) {K:Int->Int->HP}
    (ok:∀ x h',ZoR ls (sz h) x h'->obj h' O=some (.cells (Zac (z.1,z.2.1,x,z.2.2.2.1,z.2.2.2.2.1,())).toArray T2 (0,0))->Upd (· = O) h h'->K 0 0 h') (bad:∀ (i e:Nat) h',Zab Zcj (Zl5 ls 2) 0 = .error (i,e)->e≠0->Upd (· = O) h h'->K i e h'):XV (At B) (At O) K h:=by
  unfold XV Zb5
  obtain ⟨vs,x,cx,c,hx,row,hin,lst⟩:=Zi7 rt h5 (j:=2) (by decide)
  have hO:=ZaJ co
  have hpw:=hw _ (ZjN h5 (i:=2) (by decide))
  refine Za (Za (Zu ⟨by decide,by decide,?_⟩))
  refine rL (s:=x) (Zb (l:=vs.toList) (by simpa using c) (by simpa using hx)) ?_
  refine Zz3 row hin lst hS ht h9 hpw (fun y fs h' hE own inn e'=>?_) fun i e h' hE hn e'=>?_
  ·refine Zu (Zeg (Zl co e') (by show _<5;omega) rfl fun h7 c7 u7 z7=>Za (Za (ok y h7 ⟨fs,hE,own.congr fun b _ hl hb=>Zo u7 hl fun e=>by omega,fun p hp=>(inn p hp).congr fun b _ hl hb=>Zo u7 hl fun e=>by omega⟩ c7 (UN e' u7))))
  ·exact Zu (Zeg (Zl co e') (by show _<5;omega) rfl fun h7 c7 u7 z7=>Za (Za (bad i e h7 hE hn (UN e' u7))))
def Ze2 (ls:List JL) (base:Nat) (x:Sl) (h:Zc):Prop:=∃ fs:List Xi,Zab XZ (Zl5 ls 3) 0 = .ok fs/\Own h base x 5 (fs.flatMap Zbw)
theorem Ze2.base {ls:List JL} {base base':Nat} {x:Sl} {h:Zc} (d:Ze2 ls base x h) (hb:base'<=base):Ze2 ls base' x h:=by
  obtain ⟨fs,a,b⟩:=d
  exact ⟨fs,a,b.base hb⟩
theorem Ze2.upd {ls:List JL} {base:Nat} {x:Sl} {U:Nat->Prop} {h h':Zc} (d:Ze2 ls base x h) (u:Upd U h h') (hU:∀ b,base<=b->¬ U b):Ze2 ls base x h':=by
  obtain ⟨fs,a,b⟩:=d
  exact ⟨fs,a,b.congr fun b _ hl hb=>Zo u hl (hU b hb)⟩
theorem ZxJ {h:Zc} {B O:Nat} {T T2:TypeId} {S:Nat->Prop} {ls:List JL} {z:VTR} (rt:ZhU B T S ls h) (h5:ls.length=5) (hS:∀ b,S b->b<sz h) (co:obj h O=some (.cells (Zac z).toArray T2 (0,0))) (ht:ZaN h) (h9:9<=sz h) (hw:∀ l,l∈ls->pw l<=1000000000000) {K:Int->Int->HP}
    (ok:∀ x h',Ze2 ls (sz h) x h'->obj h' O=some (.cells (Zac (z.1,z.2.1,z.2.2.1,x,z.2.2.2.2.1,())).toArray T2 (0,0))->Upd (· = O) h h'->K 0 0 h') (bad:∀ (i e:Nat) h',Zab XZ (Zl5 ls 3) 0 = .error (i,e)->e≠0->Upd (· = O) h h'->K i e h'):XU (At B) (At O) K h:=by
  unfold XU Zb4
  obtain ⟨vs,x,cx,c,hx,row,hin,lst⟩:=Zi7 rt h5 (j:=3) (by decide)
  have hO:=ZaJ co
  have hpw:=hw _ (ZjN h5 (i:=3) (by decide))
  refine Za (Za (Zu ⟨by decide,by decide,?_⟩))
  refine rL (s:=x) (Zb (l:=vs.toList) (by simpa using c) (by simpa using hx)) ?_
  refine ZrE row hin lst hS ht h9 hpw (fun y fs h' hE own e'=>?_) fun i e h' hE hn e'=>?_
  ·refine Zu (Zeg (Zl co e') (by show _<5;omega) rfl fun h7 c7 u7 z7=>Za (Za (ok y h7 ⟨fs,hE,own.congr fun b _ hl hb=>Zo u7 hl fun e=>by omega⟩ c7 (UN e' u7))))
  ·exact Zu (Zeg (Zl co e') (by show _<5;omega) rfl fun h7 c7 u7 z7=>Za (Za (bad i e h7 hE hn (UN e' u7))))
def Zju (ls:List JL) (base:Nat) (x:Sl) (h:Zc):Prop:=∃ fs:List (Sl × Za2),Zab ZaO (Zl5 ls 4) 0 = .ok (fs.map (·.2))/\Own h base x 3 (fs.flatMap ZfF)/\∀ p,p∈fs->Own h base p.1 1 (p.2.origins.map sV)
theorem Zju.base {ls:List JL} {base base':Nat} {x:Sl} {h:Zc} (d:Zju ls base x h) (hb:base'<=base):Zju ls base' x h:=by
  obtain ⟨fs,a,b,c⟩:=d
  exact ⟨fs,a,b.base hb,fun p hp=>(c p hp).base hb⟩
theorem Zju.upd {ls:List JL} {base:Nat} {x:Sl} {U:Nat->Prop} {h h':Zc} (d:Zju ls base x h) (u:Upd U h h') (hU:∀ b,base<=b->¬ U b):Zju ls base x h':=by
  obtain ⟨fs,a,b,c⟩:=d
  exact ⟨fs,a,b.congr fun b _ hl hb=>Zo u hl (hU b hb),fun p hp=>(c p hp).congr fun b _ hl hb=>Zo u hl (hU b hb)⟩
theorem ZDq {h:Zc} {B O:Nat} {T T2:TypeId} {S:Nat->Prop} {ls:List JL} {z:VTR} (rt:ZhU B T S ls h) (h5:ls.length=5) (hS:∀ b,S b->b<sz h) (co:obj h O=some (.cells (Zac z).toArray T2 (0,0))) (ht:ZaN h) (h9:9<=sz h) (hw:∀ l,l∈ls->pw l<=1000000000000) {K:Int->Int->HP}
    (ok:∀ x h',Zju ls (sz h) x h'->obj h' O=some (.cells (Zac (z.1,z.2.1,z.2.2.1,z.2.2.2.1,x,())).toArray T2 (0,0))->Upd (· = O) h h'->K 0 0 h') (bad:∀ (i e:Nat) h',Zab ZaO (Zl5 ls 4) 0 = .error (i,e)->e≠0->Upd (· = O) h h'->K i e h'):XT (At B) (At O) K h:=by
  unfold XT Zb3
  obtain ⟨vs,x,cx,c,hx,row,hin,lst⟩:=Zi7 rt h5 (j:=4) (by decide)
  have hO:=ZaJ co
  have hpw:=hw _ (ZjN h5 (i:=4) (by decide))
  refine Za (Za (Zu ⟨by decide,by decide,?_⟩))
  refine rL (s:=x) (Zb (l:=vs.toList) (by simpa using c) (by simpa using hx)) ?_
  refine ZxW row hin lst hS ht h9 hpw (fun y fs h' hE own inn e'=>?_) fun i e h' hE hn e'=>?_
  ·refine Zu (Zeg (Zl co e') (by show _<5;omega) rfl fun h7 c7 u7 z7=>Za (Za (ok y h7 ⟨fs,hE,own.congr fun b _ hl hb=>Zo u7 hl fun e=>by omega,fun p hp=>(inn p hp).congr fun b _ hl hb=>Zo u7 hl fun e=>by omega⟩ c7 (UN e' u7))))
  ·exact Zu (Zeg (Zl co e') (by show _<5;omega) rfl fun h7 c7 u7 z7=>Za (Za (bad i e h7 hE hn (UN e' u7))))
theorem Zt6 {v:JV} {ls:List JL} (h:Xp Zib Zks Zlf v = .ok ls):Zgu v=match Zci ls with
    | .error p=> .error p
    | .ok r=>if r.whereE.2.2=0 then .ok r else .error r.whereE:=by
  unfold Zgu
  rw [h]
  rfl
set_option maxHeartbeats 4000000 in
set_option maxRecDepth 4000 in
theorem Zip {h0:Zc} {z:VT5} {v:JV} {S:Nat->Prop} (hv:Zam h0 S z v) (hS:∀ b,S b->b<sz h0) (hw:wV v<=1000000000000) (ht:ZaN h0) (h9:9<=sz h0) {K:(Sl × Sl × Sl × Sl × Sl × Unit)->Int->Int->Int->HP}
    (ok:∀ x r h',Zgu v = .ok r->Zat h' (fun b=>sz h0<=b) x r->RulesP.fit r->Ext h0 h'->K x 0 0 0 h')
    (bad:∀ (k i e:Nat) h',Zgu v = .error (k,i,e)->e≠0->Ext h0 h'->K (⟨none,0,0⟩,⟨none,0,0⟩,⟨none,0,0⟩,⟨none,0,0⟩,⟨none,0,0⟩,()) e k i h'):YP z K h0:=by
  unfold YP ZcP
  refine YX fun h1 c1 e1 z1=>YX fun h3 c3 e3 z3=>Za (Za (Za (YX fun h7 c7 e7 z7=>YX fun h9_ c9 e9 z9=>YX fun h11 c11 e11 z11=>?_)))
  have s0:sz h0=h0.size:=rfl
  have s1:sz h1=h1.size:=rfl
  have s3:sz h3=h3.size:=rfl
  have s7:sz h7=h7.size:=rfl
  have s9:sz h9_=h9_.size:=rfl
  have s11:sz h11=h11.size:=rfl
  refine Zjw c11 (by show 0<1;omega) rfl fun h12 c12 u12 z12=>?_
  have s12:sz h12=h12.size:=rfl
  have e011:Ext h0 h11:=e1.trans (e3.trans (e7.trans (e9.trans e11)))
  have e012:Ext h0 h12:=e011.updS u12 fun j hj=>by subst hj;omega
  have cv:obj h12 h0.size=some (.cells (Xl z).toArray 33 (0,0)):=ZB (Zl (Zl (Zl (Zl c1 e3) e7) e9) e11) u12 (by omega)
  have cz:obj h12 h1.size=some (.cells (Zac (⟨none,0,0⟩,⟨none,0,0⟩,⟨none,0,0⟩,⟨none,0,0⟩,⟨none,0,0⟩,())).toArray 28 (0,0)):=ZB (Zl (Zl (Zl c3 e7) e9) e11) u12 (by omega)
  obtain ⟨TB,cB⟩:∃ TB,obj h12 h3.size=some (.cells (Zac (⟨none,0,0⟩,⟨none,0,0⟩,⟨none,0,0⟩,⟨none,0,0⟩,⟨none,0,0⟩,())).toArray TB (0,0)):=⟨_,ZB (Zl (Zl c7 e9) e11) u12 (by omega)⟩
  have er:Er h12 h7.size 0:=⟨_,ZB (Zl c9 e11) u12 (by omega)⟩
  have bxp:Box h12 h9_.size (.pointer (At h7.size)):=⟨_,c12⟩
  have rt0:ZhU h3.size TB S Zlf h12:=⟨_,cB,rfl,fun i l hi=>by
    have hn:∀ (i:Nat),i<5->(Zac (⟨none,0,0⟩,⟨none,0,0⟩,⟨none,0,0⟩,⟨none,0,0⟩,⟨none,0,0⟩,()))[i]?=some (slV ⟨none,0,0⟩)/\Zlf[i]?=some JL.nil:=fun i hi=>by
      match i,hi with
      | 0,_=>exact ⟨rfl,rfl⟩
      | 1,_=>exact ⟨rfl,rfl⟩
      | 2,_=>exact ⟨rfl,rfl⟩
      | 3,_=>exact ⟨rfl,rfl⟩
      | 4,_=>exact ⟨rfl,rfl⟩
      | k+5,hi=>omega
    have hi5:i<5:=ZxD hi
    obtain ⟨a,b⟩:=hn i hi5
    rw [b] at hi
    cases hi
    exact ⟨_,a,⟨none,0,0⟩,[],rfl,Row.nil _ _,fun h=>absurd rfl h,rfl⟩⟩
  have Hv:∀ {h':Zc},Ext h12 h'->Z9 h' [(h0.size,0,.int .u8 z.1),(h0.size,0+1,.string z.2.1),(h0.size,0+2,.slice z.2.2.1.ptr z.2.2.1.len z.2.2.1.cap),(h0.size,0+3,.slice z.2.2.2.1.ptr z.2.2.2.1.len z.2.2.2.1.cap)]:=fun e=>ZpY (Zl cv e)
  have Hp:∀ {h':Zc},Ext h12 h'->Z9 h' [(h9_.size,0,.pointer (At h7.size))]:=fun e=>Zfp (bxp.ext e)
  refine rP (Zb c12 rfl) (rI (Zb cv rfl) (rS (Zb cv rfl) (rL (s:=z.2.2.1) (Zb cv rfl) (rL (s:=z.2.2.2.1) (Zb cv rfl) ?_))))
  refine Zds (fun d t h=>Lit (ZhV h9_.size h3.size (sz h12)) Zks 2 ZaY h12 d t.1 h/\(d 4=true->ZhV h9_.size h3.size (sz h12) () 0 (.func (.func 57) #[] #[.pointer t.2.1.1,.pointer t.2.1.2.1,.pointer t.2.1.2.2.1]) h)/\(d 7=true->ZhV h9_.size h3.size (sz h12) () 1 (.func (.func 57) #[] #[.pointer t.2.2.1.1,.pointer t.2.2.1.2.1,.pointer t.2.2.1.2.2.1]) h)/\(d 10=true->ZhV h9_.size h3.size (sz h12) () 2 (.func (.func 57) #[] #[.pointer t.2.2.2.1.1,.pointer t.2.2.2.1.2.1,.pointer t.2.2.2.1.2.2.1]) h)/\(d 13=true->ZhV h9_.size h3.size (sz h12) () 3 (.func (.func 57) #[] #[.pointer t.2.2.2.2.1.1,.pointer t.2.2.2.2.1.2.1,.pointer t.2.2.2.2.1.2.2.1]) h)/\(d 16=true->ZhV h9_.size h3.size (sz h12) () 4 (.func (.func 57) #[] #[.pointer t.2.2.2.2.2.1.1,.pointer t.2.2.2.2.2.1.2.1,.pointer t.2.2.2.2.2.1.2.2.1]) h)) (none,(none,none,none,()),(none,none,none,()),(none,none,none,()),(none,none,none,()),(none,none,none,()),()) ⟨Lit.start _ _,(fun e=>by cases e),(fun e=>by cases e),(fun e=>by cases e),(fun e=>by cases e),(fun e=>by cases e)⟩ ?_ ?_
  ·rintro d ⟨s0,s1,s2,s3,s4,s5,⟨⟩⟩ h ⟨L,q4,q7,q10,q13,q16⟩
   refine ⟨?_,?_,?_,?_,?_,?_,?_,?_,?_,?_,?_,trivial⟩
   ·exact fun e0=>L.make e0 (by decide:∀ j,j<5->ZaY j≠2) fun mb h' L' e'=>⟨Hv L'.ext,⟨Hp L'.ext,⟨L',fun e=>(q4 e).ext e',fun e=>(q7 e).ext e',fun e=>(q10 e).ext e',fun e=>(q13 e).ext e',fun e=>(q16 e).ext e'⟩⟩⟩
   ·exact fun e0=>Zjj fun c3 h' e' z3 b3=>⟨Hv (L.ext.trans e'),⟨Hp (L.ext.trans e'),⟨L.call e' (fun g=>g.ext e') (by decide) (by decide:∀ j,j<5->ZaY j≠4),fun _=>⟨c3,rfl,Aqp L.ext.size z3,b3⟩,fun e=>(q7 e).ext e',fun e=>(q10 e).ext e',fun e=>(q13 e).ext e',fun e=>(q16 e).ext e'⟩⟩⟩
   ·exact fun e0 a0 a1=>L.put a0 (j:=0) (a:=[102,108,111,119]) (k:=()) (by kernel_rfl) (by decide:∀ i,i<5->ZaY i=ZaY 0->i=0) rfl (by decide) (q4 a1) ZhV.map fun h' L' e' u'=>⟨Hv e',⟨Hp e',⟨L',fun e=>(q4 e).map u',fun e=>(q7 e).map u',fun e=>(q10 e).map u',fun e=>(q13 e).map u',fun e=>(q16 e).map u'⟩⟩⟩
   ·exact fun e0 _=>Zjj fun c3 h' e' z3 b3=>⟨Hv (L.ext.trans e'),⟨Hp (L.ext.trans e'),⟨L.call e' (fun g=>g.ext e') (by decide) (by decide:∀ j,j<5->ZaY j≠7),fun e=>(q4 e).ext e',fun _=>⟨c3,rfl,Aqp L.ext.size z3,b3⟩,fun e=>(q10 e).ext e',fun e=>(q13 e).ext e',fun e=>(q16 e).ext e'⟩⟩⟩
   ·exact fun e0 a0 a1=>L.put a0 (j:=1) (a:=[98,114,101,97,107]) (k:=()) (by kernel_rfl) (by decide:∀ i,i<5->ZaY i=ZaY 1->i=1) rfl (by decide) (q7 a1) ZhV.map fun h' L' e' u'=>⟨Hv e',⟨Hp e',⟨L',fun e=>(q4 e).map u',fun e=>(q7 e).map u',fun e=>(q10 e).map u',fun e=>(q13 e).map u',fun e=>(q16 e).map u'⟩⟩⟩
   ·exact fun e0 _=>Zjj fun c3 h' e' z3 b3=>⟨Hv (L.ext.trans e'),⟨Hp (L.ext.trans e'),⟨L.call e' (fun g=>g.ext e') (by decide) (by decide:∀ j,j<5->ZaY j≠10),fun e=>(q4 e).ext e',fun e=>(q7 e).ext e',fun _=>⟨c3,rfl,Aqp L.ext.size z3,b3⟩,fun e=>(q13 e).ext e',fun e=>(q16 e).ext e'⟩⟩⟩
   ·exact fun e0 a0 a1=>L.put a0 (j:=2) (a:=[104,111,116]) (k:=()) (by kernel_rfl) (by decide:∀ i,i<5->ZaY i=ZaY 2->i=2) rfl (by decide) (q10 a1) ZhV.map fun h' L' e' u'=>⟨Hv e',⟨Hp e',⟨L',fun e=>(q4 e).map u',fun e=>(q7 e).map u',fun e=>(q10 e).map u',fun e=>(q13 e).map u',fun e=>(q16 e).map u'⟩⟩⟩
   ·exact fun e0 _=>Zjj fun c3 h' e' z3 b3=>⟨Hv (L.ext.trans e'),⟨Hp (L.ext.trans e'),⟨L.call e' (fun g=>g.ext e') (by decide) (by decide:∀ j,j<5->ZaY j≠13),fun e=>(q4 e).ext e',fun e=>(q7 e).ext e',fun e=>(q10 e).ext e',fun _=>⟨c3,rfl,Aqp L.ext.size z3,b3⟩,fun e=>(q16 e).ext e'⟩⟩⟩
   ·exact fun e0 a0 a1=>L.put a0 (j:=3) (a:=[115,121,115,116,101,109]) (k:=()) (by kernel_rfl) (by decide:∀ i,i<5->ZaY i=ZaY 3->i=3) rfl (by decide) (q13 a1) ZhV.map fun h' L' e' u'=>⟨Hv e',⟨Hp e',⟨L',fun e=>(q4 e).map u',fun e=>(q7 e).map u',fun e=>(q10 e).map u',fun e=>(q13 e).map u',fun e=>(q16 e).map u'⟩⟩⟩
   ·exact fun e0 _=>Zjj fun c3 h' e' z3 b3=>⟨Hv (L.ext.trans e'),⟨Hp (L.ext.trans e'),⟨L.call e' (fun g=>g.ext e') (by decide) (by decide:∀ j,j<5->ZaY j≠16),fun e=>(q4 e).ext e',fun e=>(q7 e).ext e',fun e=>(q10 e).ext e',fun e=>(q13 e).ext e',fun _=>⟨c3,rfl,Aqp L.ext.size z3,b3⟩⟩⟩⟩
   ·exact fun e0 a0 a1=>L.put a0 (j:=4) (a:=[97,117,116,104,111,114,105,116,121]) (k:=()) (by kernel_rfl) (by decide:∀ i,i<5->ZaY i=ZaY 4->i=4) rfl (by decide) (q16 a1) ZhV.map fun h' L' e' u'=>⟨Hv e',⟨Hp e',⟨L',fun e=>(q4 e).map u',fun e=>(q7 e).map u',fun e=>(q10 e).map u',fun e=>(q13 e).map u',fun e=>(q16 e).map u'⟩⟩⟩
  ·rintro d ⟨s0,s1,s2,s3,s4,s5,⟨⟩⟩ h ⟨L,q4,q7,q10,q13,q16⟩
   intro d2 d4 d5 d7 d8 d10 d11 d13 d14 d16 d17
   refine ⟨Hv L.ext,⟨Hp L.ext,?_⟩⟩
   obtain ⟨mb,f,n,cls,rfl,hmb,hm,hf,hG⟩:=L.all d2 (fun j hj=>match j,hj with
     | 0,_=>d5
     | 1,_=>d8
     | 2,_=>d11
     | 3,_=>d14
     | 4,_=>d17
     | k+5,hj=>absurd hj (Azt.2 (Azu 5 k)))
   have szh:sz h12<=sz h:=L.ext.size
   have s_h:sz h=h.size:=rfl
   have hh:Ext h0 h:=e012.trans L.ext
   have hv':Zam h S z v:=hv.keep (fun b _ hl=>Zq hh hl) fun _ h=>h
   have cBh:=Zl cB L.ext
   refine ⟨1,?_⟩
   show Xq (ZF 0) _ _ _ _ _
   refine Zm5 (rd:=Zib) (F:=Zks) (m0:=Zlf) (tgt:=fun ls h'=>ZhU h3.size TB S ls h'/\ls.length=5) (W:=fun b=>b=h7.size\/b=h3.size) (P:=fun _=>True) (cls:=cls) (er.ext L.ext) ⟨rt0.upd (L.ext.upd fun _=>False) (fun h=>h) fun _ _ h=>h,rfl⟩ (.inl rfl) (by rintro (e | e)<;>omega) hm hf (by rintro (e | e)<;>omega)
     (fun a j k hq=>let ⟨c,e,_⟩:=hG a j k hq;⟨_,_,_,e⟩) ?_ (S:=S) hv' (fun b hb=>⟨by have:=hS b hb;omega,by have:=hS b hb;rintro (e | e)<;>omega⟩) (fun _ _=>trivial) ?_ (fun ls h45 a b c d=>?_)
     fun e ls h45 a b c d=>?_
   ·intro m h4 h5 a hs u
    exact ⟨a.1.upd u (by omega) fun b hb e=>by have:=hS b hb;omega,a.2⟩
   ·intro h4 m j k a z' v' K' u szl tg er' hfa hz _ _ ok' bad'
    obtain ⟨c3',e,l3,b3⟩:=hG a j k hfa
    have hj5:j<5:=Zp9 hfa
    refine .inr (.inr (.inr (.inr (.inr (.inl ⟨(At h9_.size,At h3.size,At c3',()),e,?_⟩)))))
    have bp4:Box h4 h9_.size (.pointer (At h7.size)):=(bxp.ext L.ext).upd u (by rintro (e | e)<;>omega)
    refine ZCP er' tg.1 (by omega) tg.2 hj5 (fun b hb=>by have:=hS b hb;omega) bp4 (b3.upd u (by rintro (e | e)<;>omega)) hz (fun x h' a b c d=>ok' x h' a ⟨b,by rw [List.length_set];exact tg.2⟩ c d) fun e h' a hn b c d=>bad' e m h' a hn ⟨b,tg.2⟩ c d
   ·
    have hwl:∀ l,l∈ls->pw l<=1000000000000:=fun l hl=>Aqp ((ZCQ a).2 l hl) hw
    have s45:sz h45=h45.size:=rfl
    have szd:sz h<=sz h45:=d.size
    have e045:Ext h0 h45:=hh.updS d (by rintro j (e | e)<;>omega)
    obtain ⟨Tp,cp⟩:Box h45 h9_.size (.pointer (At h7.size)):=(bxp.ext L.ext).upd d (by rintro (e | e)<;>omega)
    have cz45:=ZB (Zl cz L.ext) d (by rintro (e | e)<;>omega)
    refine rP (Zb cp rfl) (Zu (ZeU c (Zm rfl (YX fun h63 c63 e63 z63=>YX fun h65 c65 e65 z65=>?_))))
    have s63:sz h63=h63.size:=rfl
    have s65:sz h65=h65.size:=rfl
    have e4565:Ext h45 h65:=e63.trans e65
    have e065:Ext h0 h65:=e045.trans e4565
    have co65:obj h65 h45.size=some (.cells (Zac (⟨none,0,0⟩,⟨none,0,0⟩,⟨none,0,0⟩,⟨none,0,0⟩,⟨none,0,0⟩,())).toArray 28 (0,0)):=Zl c63 e65
    have cz65:=Zl cz45 e4565
    have rt65:ZhU h3.size TB S ls h65:=b.1.upd (e4565.upd fun _=>False) (fun h=>h) fun _ _ h=>h
    refine Zv (fun p h'=>∃ (k:Nat) (x0 x1 x2 x3 x4:Sl),p.1=k/\k<=5/\obj h' h45.size=some (.cells (Zac (x0,x1,x2,x3,x4,())).toArray 28 (0,0))/\(0<k->Zjv ls (sz h65) x0 h')/\(1<k->Zg6 ls (sz h65) x1 h')/\(2<k->ZoR ls (sz h65) x2 h')/\(3<k->Ze2 ls (sz h65) x3 h')/\(4<k->Zju ls (sz h65) x4 h')/\Upd (· = h45.size) h65 h') (fun p _=>(5 - p.1).toNat)
      ⟨0,⟨none,0,0⟩,⟨none,0,0⟩,⟨none,0,0⟩,⟨none,0,0⟩,⟨none,0,0⟩,rfl,by decide,co65,fun e=>absurd e (by decide),fun e=>absurd e (by decide),fun e=>absurd e (by decide),fun e=>absurd e (by decide),fun e=>absurd e (by decide),Upd.refl _ _⟩ ?_
    rintro ⟨k_,u⟩ h68 ⟨k,x0,x1,x2,x3,x4,hk,hkl,co,d0,d1,d2_,d3,d4_,u68⟩
    dsimp only at hk ⊢
    subst hk
    have sz68:sz h65<=sz h68:=u68.size
    have e068:Ext h0 h68:=e065.updS u68 fun j hj=>by omega
    have cz68:=ZB cz65 u68 (by omega)
    have rt68:ZhU h3.size TB S ls h68:=rt65.upd u68 (by omega) fun b hb=>by have:=hS b hb;omega
    have cl68:=ZB c65 u68 (by omega)
    have crow:Row h68 ⟨some ⟨h63.size,0,none⟩,5,5⟩ 1 _:=ZoH (n:=5) cl68 rfl (by decide)
    have t68:=ht.ext e068
    have n68:9<=sz h68:=by omega
    have hS68:∀ b,S b->b<sz h68:=fun b hb=>by have:=hS b hb;omega
    have keepD:∀ {h':Zc},Upd (· = h45.size) h68 h'->∀ b,sz h65<=b->¬ b=h45.size:=fun u b hb=>by omega
    have fromR:=Zt6 a
    refine Zt (fun hlt=>?_) fun hge=>?_
    ·have hk5:k=0\/k=1\/k=2\/k=3\/k=4:=by omega
     have fin:∀ {i e:Nat} {h72:Zc},Zgu v = .error (k+1,i,e)->e≠0->Upd (· = h45.size) h68 h72->sts h72 h1.size 0 [.slice none 0 0,.slice none 0 0,.slice none 0 0,.slice none 0 0,.slice none 0 0] (fun h79=>Zi (e:Int) fun t80=>Zi (IntKind.wrap .u8 (IntKind.wrap .i64 ((k:Int)+1))) fun t81=>Zi (i:Int) fun t82 =>
         ldL h79 h1.size 0 fun t83=>ldL h79 h1.size (0+1) fun t84=>ldL h79 h1.size (0+2) fun t85=>ldL h79 h1.size (0+3) fun t86=>ldL h79 h1.size (0+4) fun t87=>K (t83,t84,t85,t86,t87,()) t80 t81 t82 h79):=fun {i e h72} hE hn u72=>by
       have cz72:=ZB cz68 u72 (by omega)
       refine ZeW cz72 (by show 5<=5;omega) rfl fun h79 c79 u79 z79=>Za (Za (Za ?_))
       rw [Yt (by omega) (by omega),ZqI (by omega) (by omega)]
       refine rL (s:=⟨none,0,0⟩) (Zb c79 rfl) (rL (s:=⟨none,0,0⟩) (Zb c79 rfl) (rL (s:=⟨none,0,0⟩) (Zb c79 rfl) (rL (s:=⟨none,0,0⟩) (Zb c79 rfl) (rL (s:=⟨none,0,0⟩) (Zb c79 rfl) (bad (k+1) i e h79 hE hn ?_)))))
       exact (e068.updS u72 fun j hj=>by omega).updS u79 fun j hj=>by omega
     rcases hk5 with rfl | rfl | rfl | rfl | rfl
     ·refine Zmz crow rfl rfl (Za (.inl ⟨(At h3.size,At h45.size,()),rfl,ZDr rt68 b.2 hS68 co t68 n68 hwl (fun y h72 dk0 c72 u72=>Za (Za (Zm rfl ?_))) fun i e h72 hE hn u72=>Za (Za (Zn (by simp;omega) (fin ?_ hn u72)))⟩))
      ·have dk:Zjv ls (sz h65) y h72:=dk0.base sz68
       rw [Yt (by omega) (by omega)]
       exact ⟨⟨1,y,x1,x2,x3,x4,rfl,by decide,c72,fun _=>dk,fun e=>absurd e (by decide),fun e=>absurd e (by decide),fun e=>absurd e (by decide),fun e=>absurd e (by decide),u68.trans u72⟩,by omega⟩
      ·rw [fromR]
       unfold Zci
       rw [hE]
     ·refine Zmz crow rfl rfl (Za (.inr (.inl ⟨(At h3.size,At h45.size,()),rfl,ZzN rt68 b.2 hS68 co t68 n68 hwl (fun y h72 dk0 c72 u72=>Za (Za (Zm rfl ?_))) fun i e h72 hE hn u72=>Za (Za (Zn (by simp;omega) (fin ?_ hn u72)))⟩)))
      ·have dk:Zg6 ls (sz h65) y h72:=dk0.base sz68
       rw [Yt (by omega) (by omega)]
       exact ⟨⟨2,x0,y,x2,x3,x4,rfl,by decide,c72,fun e=>(d0 (by decide)).upd u72 (keepD u72),fun _=>dk,fun e=>absurd e (by decide),fun e=>absurd e (by decide),fun e=>absurd e (by decide),u68.trans u72⟩,by omega⟩
      ·rw [fromR]
       obtain ⟨f0,g0,_⟩:=d0 (by decide)
       unfold Zci
       rw [g0,hE]
     ·refine Zmz crow rfl rfl (Za (.inr (.inr (.inl ⟨(At h3.size,At h45.size,()),rfl,ZFv rt68 b.2 hS68 co t68 n68 hwl (fun y h72 dk0 c72 u72=>Za (Za (Zm rfl ?_))) fun i e h72 hE hn u72=>Za (Za (Zn (by simp;omega) (fin ?_ hn u72)))⟩))))
      ·have dk:ZoR ls (sz h65) y h72:=dk0.base sz68
       rw [Yt (by omega) (by omega)]
       exact ⟨⟨3,x0,x1,y,x3,x4,rfl,by decide,c72,fun e=>(d0 (by decide)).upd u72 (keepD u72),fun e=>(d1 (by decide)).upd u72 (keepD u72),fun _=>dk,fun e=>absurd e (by decide),fun e=>absurd e (by decide),u68.trans u72⟩,by omega⟩
      ·rw [fromR]
       obtain ⟨f0,g0,_⟩:=d0 (by decide)
       obtain ⟨f1,g1,_⟩:=d1 (by decide)
       unfold Zci
       rw [g0,g1,hE]
     ·refine Zmz crow rfl rfl (Za (.inr (.inr (.inr (.inl ⟨(At h3.size,At h45.size,()),rfl,ZxJ rt68 b.2 hS68 co t68 n68 hwl (fun y h72 dk0 c72 u72=>Za (Za (Zm rfl ?_))) fun i e h72 hE hn u72=>Za (Za (Zn (by simp;omega) (fin ?_ hn u72)))⟩)))))
      ·have dk:Ze2 ls (sz h65) y h72:=dk0.base sz68
       rw [Yt (by omega) (by omega)]
       exact ⟨⟨4,x0,x1,x2,y,x4,rfl,by decide,c72,fun e=>(d0 (by decide)).upd u72 (keepD u72),fun e=>(d1 (by decide)).upd u72 (keepD u72),fun e=>(d2_ (by decide)).upd u72 (keepD u72),fun _=>dk,fun e=>absurd e (by decide),u68.trans u72⟩,by omega⟩
      ·rw [fromR]
       obtain ⟨f0,g0,_⟩:=d0 (by decide)
       obtain ⟨f1,g1,_⟩:=d1 (by decide)
       obtain ⟨f2,g2,_⟩:=d2_ (by decide)
       unfold Zci
       rw [g0,g1,g2,hE]
     ·refine Zmz crow rfl rfl (Za (.inr (.inr (.inr (.inr (.inl ⟨(At h3.size,At h45.size,()),rfl,ZDq rt68 b.2 hS68 co t68 n68 hwl (fun y h72 dk0 c72 u72=>Za (Za (Zm rfl ?_))) fun i e h72 hE hn u72=>Za (Za (Zn (by simp;omega) (fin ?_ hn u72)))⟩))))))
      ·have dk:Zju ls (sz h65) y h72:=dk0.base sz68
       rw [Yt (by omega) (by omega)]
       exact ⟨⟨5,x0,x1,x2,x3,y,rfl,by decide,c72,fun e=>(d0 (by decide)).upd u72 (keepD u72),fun e=>(d1 (by decide)).upd u72 (keepD u72),fun e=>(d2_ (by decide)).upd u72 (keepD u72),fun e=>(d3 (by decide)).upd u72 (keepD u72),fun _=>dk,u68.trans u72⟩,by omega⟩
      ·rw [fromR]
       obtain ⟨f0,g0,_⟩:=d0 (by decide)
       obtain ⟨f1,g1,_⟩:=d1 (by decide)
       obtain ⟨f2,g2,_⟩:=d2_ (by decide)
       obtain ⟨f3,g3,_⟩:=d3 (by decide)
       unfold Zci
       rw [g0,g1,g2,g3,hE]
    ·have:k=5:=by omega
     subst this
     obtain ⟨fa,ha,oa⟩:=d0 (by decide)
     obtain ⟨fb,hb,ob⟩:=d1 (by decide)
     obtain ⟨fc,hc,oc,ic⟩:=d2_ (by decide)
     obtain ⟨fd,hd,od⟩:=d3 (by decide)
     obtain ⟨fe,he,oe,ie⟩:=d4_ (by decide)
     obtain ⟨r,hr⟩:∃ r:RulesP,r=⟨fa,fb,fc.map (·.2),fd,fe.map (·.2)⟩:=⟨_,rfl⟩
     have hrr:Zci ls = .ok r:=by unfold Zci;rw [ha,hb,hc,hd,he,hr]
     have hfit:RulesP.fit r:=by rw [hr];exact Zob (N:=0) b.2 hwl ha hb hc he
     have inS_:∀ {x:Sl} {n:Nat} {vs:List Value},Own h68 (sz h65) x n vs->Row h68 x n vs/\inS (fun b=>sz h0<=b) x:=fun o=>⟨o.row,fun _ b hb=>by have:=(o.lt hb).1;omega⟩
     have rr:Zat h68 (fun b=>sz h0<=b) (x0,x1,x2,x3,x4,()) r:=by
       rw [hr]
       exact ⟨inS_ oa,inS_ ob,⟨fc,rfl,inS_ oc,fun p hp=>inS_ (ic p hp)⟩,inS_ od,⟨fe,rfl,inS_ oe,fun p hp=>inS_ (ie p hp)⟩⟩
     rw [hrr] at fromR
     refine rL (s:=x0) (Zb co rfl) (rL (s:=x1) (Zb co rfl) (rL (s:=x2) (Zb co rfl) (rL (s:=x3) (Zb co rfl) (rL (s:=x4) (Zb co rfl) (Ztk rr hfit fun h96 p hp e96=>Za (Za (Za ?_)))))))
     have cz96:=Zl cz68 e96
     have co96:=Zl co e96
     have e096:=e068.trans e96
     refine Zax (fun hne=>?_) fun heq=>?_
     ·refine ZeW cz96 (by show 5<=5;omega) rfl fun h99 c99 u99 z99=>Za (Za (Za ?_))
      refine rL (s:=⟨none,0,0⟩) (Zb c99 rfl) (rL (s:=⟨none,0,0⟩) (Zb c99 rfl) (rL (s:=⟨none,0,0⟩) (Zb c99 rfl) (rL (s:=⟨none,0,0⟩) (Zb c99 rfl) (rL (s:=⟨none,0,0⟩) (Zb c99 rfl) (bad p.1 p.2.1 p.2.2 h99 ?_ (by omega) ?_)))))
      ·rw [fromR]
       show (if r.whereE.2.2=0 then _ else _)=_
       rw [if_neg (by rw [<- hp];omega),<- hp]
      ·exact e096.updS u99 fun j hj=>by omega
     ·refine rL (s:=x0) (Zb co96 rfl) (rL (s:=x1) (Zb co96 rfl) (rL (s:=x2) (Zb co96 rfl) (rL (s:=x3) (Zb co96 rfl) (rL (s:=x4) (Zb co96 rfl) (ZeW cz96 (by show 5<=5;omega) rfl fun h113 c113 u113 z113=>Za (Za (Za ?_)))))))
      refine rL (s:=x0) (Zb c113 rfl) (rL (s:=x1) (Zb c113 rfl) (rL (s:=x2) (Zb c113 rfl) (rL (s:=x3) (Zb c113 rfl) (rL (s:=x4) (Zb c113 rfl) (ok (x0,x1,x2,x3,x4,()) r h113 ?_ ?_ hfit ?_)))))
      ·rw [fromR]
       show (if r.whereE.2.2=0 then _ else _)=_
       rw [if_pos (by rw [<- hp];omega)]
      ·have rr2:Zat h96 (fun b=>sz h65<=b) (x0,x1,x2,x3,x4,()) r:=by
         have inL:∀ {x:Sl} {n:Nat} {vs:List Value},Own h68 (sz h65) x n vs->Row h96 x n vs/\inS (fun b=>sz h65<=b) x:=fun o=>⟨o.row.ext e96,fun _ b hb=>(o.lt hb).1⟩
         rw [hr]
         exact ⟨inL oa,inL ob,⟨fc,rfl,inL oc,fun p hp=>inL (ic p hp)⟩,inL od,⟨fe,rfl,inL oe,fun p hp=>inL (ie p hp)⟩⟩
       exact (rr2.keep fun b hb hl=>Zo u113 hl fun e=>by omega).mono fun b _ hb=>by omega
      ·exact e096.updS u113 fun j hj=>by omega
   ·
    have szd:sz h<=sz h45:=d.size
    have e045:Ext h0 h45:=hh.updS d (by rintro j (e | e)<;>omega)
    have he:e≠0:=by rcases ZiA (rd:=Zib) (fun k v e h=>by unfold Zib at h;split at h<;>cases h;exact .inl rfl) a with e' | e'<;>omega
    obtain ⟨Tp,cp⟩:Box h45 h9_.size (.pointer (At h7.size)):=(bxp.ext L.ext).upd d (by rintro (e | e)<;>omega)
    have cz45:=ZB (Zl cz L.ext) d (by rintro (e | e)<;>omega)
    obtain ⟨Te,ce⟩:=c
    refine rP (Zb cp rfl) (Zu (rI (Zb ce rfl) (Zn (by simp;omega) (rP (Zb cp rfl) (Zu (rI (Zb ce rfl) (ZeW cz45 (by show 5<=5;omega) rfl fun h53 c53 u53 z53=>?_)))))))
    refine ⟨⟨?_,trivial⟩,Zfp (Box.upd ⟨Tp,cp⟩ u53 (by omega)),Za (Za (Za ?_))⟩
    ·rw [X6]
     exact Zb (ZB ce u53 (by omega)) rfl
    ·refine rL (s:=⟨none,0,0⟩) (Zb c53 rfl) (rL (s:=⟨none,0,0⟩) (Zb c53 rfl) (rL (s:=⟨none,0,0⟩) (Zb c53 rfl) (rL (s:=⟨none,0,0⟩) (Zb c53 rfl) (rL (s:=⟨none,0,0⟩) (Zb c53 rfl) (bad 0 0 e h53 (by unfold Zgu;rw [a]) he (e045.updS u53 fun j hj=>by omega))))))
end Go.Proofs.YtpjbjdheeemdiaaGreatDoor
namespace Go.Js
open Go
end Go.Js
namespace Go.Proofs.YtpjbjdheeemdiaaGreatDoor
open Go Go.Fw Go.Js
section
variable {h:Zc}
end
end Go.Proofs.YtpjbjdheeemdiaaGreatDoor
namespace Go.Js
open Go
def JL.app:JL->JL->JL
  | .nil,r=>r
  | .cons k t ns s l,r=> .cons k t ns s (l.app r)
theorem JL.app_snoc (v:JV):∀ (l:JL) (r:JL),(l.snoc v).app r=l.app (.cons v.k v.t v.ns v.sub r)
  | .nil,r=>rfl
  | .cons k t ns s l,r=>by show JL.cons k t ns s ((l.snoc v).app r)=_;rw [JL.app_snoc v l r];rfl
theorem JL.app_nil:∀ l:JL,l.app .nil=l
  | .nil=>rfl
  | .cons k t ns s l=>by show JL.cons k t ns s (l.app .nil)=_;rw [JL.app_nil l]
end Go.Js
namespace Go.Proofs.YtpjbjdheeemdiaaGreatDoor
open Go Go.Fw Go.Js
section
variable {h:Zc}
end
end Go.Proofs.YtpjbjdheeemdiaaGreatDoor
namespace Go.Proofs.YtpjbjdheeemdiaaGreatDoor
open Go Go.Fw Go.Js
def fr (h:Zc) (a:Nat) (j:Nat):Prop:=a<=j/\j<sz h
section
variable {h:Zc}
theorem ZcG {S:Nat->Prop}:inS S ⟨none,0,0⟩:=fun h0=>absurd rfl h0
theorem Zqp {x:Sl} {n bytes:Nat} {vs zs:List Value} {T:TypeId} (hr:Row h x n vs) (h1:vs.all Yc=true) (hz:zs.length=n) (hb:x.len*bytes<=140737488355328) (hl:x.len<=140737488355328) {K:Sl->HP}
    (hk:∀ y h',Ext h h'->Own h' (sz h) y n vs->K y h'):Zz x.ptr.isNone (K ⟨none,0,0⟩ h) (newC h [] T fun b h2=>rdS x n h2 fun new=>app T n bytes zs ⟨some ⟨b,0,none⟩,0,0⟩ x.len new h2 K):=by
  cases hp:x.ptr with
  | none =>
    refine Zn rfl (hk _ h (Ext.refl _) ?_)
    have:vs=[]:=by
      rcases hr.at_ with h0 | ⟨b,o,hq,_⟩
      ·exact hr.nil_of h0
      ·rw [hp] at hq;cases hq
    rw [this]
    exact Own.nil _ _ _
  | some a =>
    refine Zm rfl (YX fun h2 c2 e2 z2=>(hr.ext e2).rd ?_)
    have own:Own h2 (sz h) ⟨some ⟨h.size,0,none⟩,0,0⟩ n []:=⟨by simp,Aqo _,by show 0<9223372036854775808;decide,.inr ⟨_,_,_,rfl,Aqo _,c2,by simp,by simp⟩⟩
    have s0:sz h=h.size:=rfl
    refine own.app (by have:=hr.len;omega) h1 hz (by show (0+x.len)*bytes<=_;rw [Awb];exact hb) (by show 0+x.len<=_;omega) (by omega) fun y h' o _ u _=>hk y h' (e2.updS u fun j hj=>?_) (by simpa using o)
    have:h.size=j:=by simpa [Sl.blk] using hj
    omega
theorem ZEX (ns:List BL):(ns.map sV).all Yc=true:=by
  rw [Axc]
  intro v hv
  obtain ⟨a,_,rfl⟩:=Ayw.1 hv
  rfl
theorem ZiP {x:Sl} {ns:List BL} (hr:Row h x 1 (ns.map sV)) (hl:ns.length<=1000000000000) {K:Sl->HP} (hk:∀ y h',Ext h h'->Own h' (sz h) y 1 (ns.map sV)->K y h'):Yn x K h:=by
  unfold Yn Zal
  have:=ZaQ hr
  exact Zqp hr (ZEX ns) rfl (by omega) (by omega) hk
theorem Zxp {S:Nat->Prop}:∀ {l:JL} {vs:List Value},Xm h S l vs->vs.all Yc=true
  | .nil,vs,e=>by rw [show vs=[] from e];rfl
  | .cons k t ns s r,vs,e=>by
    obtain ⟨x,y,cx,vs',e1,_,_,_,_,_,g⟩:=e
    rw [e1,Azm,Zcf,Zxp g]
    rfl
theorem ZlX {x:Sl} {vs:List Value} (hr:Row h x 4 vs) (h1:vs.all Yc=true) (hl:x.len<=1000000000000) {K:Sl->HP} (hk:∀ y h',Ext h h'->Own h' (sz h) y 4 vs->K y h'):Yv x K h:=by
  unfold Yv Xx
  exact Zqp hr h1 rfl (by omega) (by omega) hk
theorem Zrg (l:List BL):l.length<=nsW l:=by
  induction l with
  | nil=>exact Aqo _
  | cons a l ih=>simp only [Aqj,nsW];omega
theorem hv4 {b:Nat} {z:VT5} {T:TypeId} {f:Nat × Nat} (c:obj h b=some (.cells (Xl z).toArray T f)) {i:Nat} {v:Value} (hv:(Xl z)[i]?=some v):Z9 h [(b,i,v)]:=⟨by rw [X6];exact Zb c hv,trivial⟩
theorem ZrF:∀ (m:Nat) {h:Zc} {z:VT5} {v:JV} {S:Nat->Prop} {K:VT5->HP},v.sub.hei<=m->wV v<=1000000000000->Zam h S z v->(∀ j,S j->j<sz h) ->
    (∀ z' h',Ext h h'->Zam h' (fr h' (sz h)) z' v->K z' h')->Zbj (m+1) z K h:=by
  have step:∀ {f126:Zh9} {v:JV},(∀ i k t ns s r,v.sub.drop i = .cons k t ns s r->∀ {h:Zc} {z:VT5} {S:Nat->Prop} {K:VT5->HP},wV ⟨k,t,ns,s⟩<=1000000000000->Zam h S z ⟨k,t,ns,s⟩->(∀ j,S j->j<sz h)->(∀ z' h',Ext h h'->Zam h' (fr h' (sz h)) z' ⟨k,t,ns,s⟩->K z' h')->f126 z K h) ->
      ∀ {h:Zc} {z:VT5} {S:Nat->Prop} {K:VT5->HP},wV v<=1000000000000->Zam h S z v->(∀ j,S j->j<sz h)->(∀ z' h',Ext h h'->Zam h' (fr h' (sz h)) z' v->K z' h')->ZeX f126 z K h:=by
    intro f126 v hsub h z S K hw hv hS hk
    unfold ZeX ZgV
    have hs:sz h=h.size:=rfl
    refine YX fun h1 c1 e1 z1=>YX fun h3 c3 e3 z3=>?_
    have e03:=e1.trans e3
    have hs1:sz h1=h1.size:=rfl
    have hs3:sz h3=h3.size:=rfl
    have cv:obj h3 h.size=some (.cells (Xl z).toArray 33 (0,0)):=Zl c1 e3
    have cz:obj h3 h1.size=some (.cells zV.toArray 33 (0,0)):=c3
    obtain ⟨a1,a2,a3,a4,cx,a5,a6,a7⟩:=id hv
    have hlx:z.2.2.1.len=v.sub.len:=by have:=a5.len;have:=a7.len;omega
    have hbig:=a5.big
    have hcap:=a5.cap
    have hpw:=ZdN v.sub
    have hpv:=Zk4 v
    have hnl:v.ns.length<=1000000000000:=by have:=Zrg v.ns;unfold wV at hw;omega
    have keepS:∀ {a:Zc},Ext h a->∀ j,S j->j<sz h->obj a j=obj h j:=fun e j hj hl=>Zq e hl
    have row3:Row h3 z.2.2.2.1 1 (v.ns.map sV):=Yi a3 a4 (keepS e03)
    refine Z0 (fun p h'=>Ext h3 h'/\∃ (ob:Nat) (y:Sl),p.1=At ob/\sz h3<=ob/\obj h' ob=some (.cells (Xl (z.1,z.2.1,⟨none,0,0⟩,y,())).toArray 33 (0,0))/\Own h' (sz h3) y 1 (v.ns.map sV)/\y.blk≠some ob) ?_ ?_
    ·rintro ⟨op,u⟩ h17 ⟨e17,ob,y,hop,hob,co,oy,hyb⟩
     dsimp only at hop ⊢
     subst hop
     have e017:=e03.trans e17
     have hs17:sz h17=h17.size:=rfl
     have sz17:=e17.size
     have cv17:=Zl cv e17
     have cz17:=Zl cz e17
     have hobl:=ZaJ co
     refine rL (s:=z.2.2.1) (Zb cv17 rfl) (Zv (fun p h'=>∃ (i:Nat) (dn:JL) (vs:List Value) (l:Sl),p.1=i/\dn.len=i/\dn.app (v.sub.drop i)=v.sub/\obj h' ob=some (.cells (Xl (z.1,z.2.1,l,y,())).toArray 33 (0,0))/\Own h' (sz h17) l 4 vs /\
         Xm h' (fun j=>sz h17<=j/\j<sz h'/\l.blk≠some j) dn vs/\Upd (· = ob) h17 h') (fun p _=>(v.sub.len - p.1).toNat)
       ⟨0,.nil,[],⟨none,0,0⟩,rfl,rfl,rfl,co,Own.nil _ _ _,rfl,Upd.refl _ _⟩ ?_)
     rintro ⟨i_,u⟩ h21 ⟨i,dn,vs,l,hi,hdn,happ,co21,ol,hov,u21⟩
     dsimp only at hi ⊢
     subst hi
     have hs21:sz h21=h21.size:=rfl
     have sz21:sz h17<=sz h21:=u21.size
     have u021:Upd (· = ob) h h21:=UN e017 u21
     have e021:Ext h h21:=e017.updS u21 fun j hj=>by omega
     have hlv:l.len=dn.len:=by have:=ol.len;have:=hov.len;omega
     have lblk:∀ {j:Nat},l.blk=some j->sz h17<=j/\j<sz h21:=fun e=>ol.lt e
     refine Zt (fun hlt=>?_) fun hge=>?_
     ·have hia:i<v.sub.len:=by omega
      obtain ⟨k,t,ns,s,r,hd⟩:=JL.drop_cons hia
      refine ZfW (Yi a5 a6 (keepS e021)) (a7.keep (keepS e021) fun j hj=>hj) hd rfl fun zi hzi=>YX fun h28 c28 e28 z28=>ZeW c28 (by show 4<=4;omega) rfl fun h29 c29 u29 z29=>?_
      have hs28:sz h28=h28.size:=rfl
      have hs29:sz h29=h29.size:=rfl
      have e2129:Ext h21 h29:=e28.updS u29 fun j hj=>by subst hj;exact Aqo _
      have c29':obj h29 h21.size=some (.cells (Xl zi).toArray 33 (0,0)):=c29
      have co29:=Zl co21 e2129
      refine Zu (rL (s:=l) (Zb co29 rfl) (rI (Zb c29' rfl) (rS (Zb c29' rfl) (rL (s:=zi.2.2.1) (Zb c29' rfl) (rL (s:=zi.2.2.2.1) (Zb c29' rfl) ?_)))))
      have hzi29:Zam h29 S zi ⟨k,t,ns,s⟩:=hzi.keep (fun b _ hl=>Zq e2129 hl) fun _ h=>h
      refine hsub i k t ns s r hd (S:=S) (by have:=ZqM i hd;omega) hzi29 (fun j hj=>by have:=hS j hj;have:=e021.size;have:=e2129.size;omega) fun z6 h38 e38 hz6=>?_
      have hs38:sz h38=h38.size:=rfl
      have co38:=Zl co29 e38
      have sz38:sz h29<=sz h38:=e38.size
      refine ⟨⟨by rw [X6];exact Zb co38 rfl,trivial⟩,?_⟩
      have ol38:Own h38 (sz h17) l 4 vs:=ol.congr fun b hb hl _=>Zq (e2129.trans e38) hl
      refine YX fun h40 c40 e40 z40=>⟨⟨by rw [X6];exact Zb (Zl co38 e40) rfl,trivial⟩,?_⟩
      have hs40:sz h40=h40.size:=rfl
      have c40':obj h40 h38.size=some (.cells (Xl z6).toArray 33 (0,0)):=c40
      refine Zha c40' rfl ((ol38.congr fun b hb hl _=>Zq e40 hl).app (n:=1) rfl (Zcf z6) rfl (by omega) (by omega) (by omega) fun l8 h42 o8 l8l u8 b8=>?_)
      have hs42:sz h42=h42.size:=rfl
      have sz42:sz h40<=sz h42:=u8.size
      have co42:obj h42 ob=some (.cells (Xl (z.1,z.2.1,l,y,())).toArray 33 (0,0)):=ZB (Zl co38 e40) u8 fun e=>by have:=(lblk e).1;omega
      refine Zu (Zjw co42 (by simp [Xl]) rfl fun h45 c45 u45 z45=>?_)
      rw [Yt (by omega) (by omega)]
      have l8b:∀ j,l8.blk=some j->l.blk=some j\/j=h40.size:=fun j hj=>by
        rcases b8 with h9 | h9
        ·left;rw [<- h9];exact hj
        ·right;rw [h9] at hj;exact (Option.some.inj hj).symm
      have e2140:Ext h21 h40:=e2129.trans (e38.trans e40)
      refine ⟨⟨i+1,dn.snoc ⟨k,t,ns,s⟩,vs++Xl z6,l8,rfl,by rw [JL.len_snoc,hdn],?_,c45,?_,?_,?_⟩,by omega⟩
      ·rw [JL.app_snoc,JL.drop_succ i v.sub hd,<- hd]
       exact happ
      ·exact o8.congr fun b hb hl hge=>Zo u45 hl fun e=>by omega
      ·refine Xm.snoc (hz6.keep (S':=fun j=>sz h17<=j/\j<sz h45/\l8.blk≠some j) (fun b hb hl=>?_) fun b hb=>?_) (hov.keep (fun b hb hl=>?_) fun b hb=>?_)
       ·have h1b:=hb.1
        rw [Zo u45 (by omega) (by omega),Zo u8 (by omega) fun h9=>by have:=(lblk h9).2;omega]
        exact Zq e40 hl
       ·obtain ⟨q1,q2⟩:=hb
        refine ⟨by omega,by omega,fun h9=>?_⟩
        rcases l8b b h9 with h8' | h8'
        ·have:=(lblk h8').2;omega
        ·omega
       ·rw [Zo u45 (by omega) (by omega),Zo u8 (by omega) fun h9=>hb.2.2 h9]
        exact Zq e2140 hl
       ·refine ⟨hb.1,by omega,fun h9=>?_⟩
        rcases l8b b h9 with h8' | h8'
        ·exact hb.2.2 h8'
        ·omega
      ·refine UT (UT (u21.trans (e2140.upd _)) u8 fun j hj=> .inr (lblk hj).1) u45 fun j hj=> .inl hj
     ·rw [JL.drop_nil (by omega),JL.app_nil] at happ
      subst happ
      have oy21:Own h21 (sz h3) y 1 (v.ns.map sV):=oy.congr fun b hb hl _=>Zo u21 hl fun e=>hyb (e▸hb)
      have cz21:=ZB cz17 u21 (by omega)
      refine Zu (rI (Zb co21 rfl) (rS (Zb co21 rfl) (rL (s:=l) (Zb co21 rfl) (rL (s:=y) (Zb co21 rfl) (Zbc (x:=l) (y:=y) cz21 rfl fun h7 u7 z7=>hk (z.1,z.2.1,l,y,()) h7 (e021.updS u7 fun j hj=>by omega) ?_)))))
      have hlt1:h1.size<sz h3:=by omega
      refine ⟨a1,a2,(oy21.congr fun b hb hl hge=>Zo u7 hl fun e=>by omega).row,fun _ b hb=>?_,vs,(ol.congr fun b hb hl hge=>Zo u7 hl fun e=>by omega).row,fun _ b hb=>?_,hov.keep (fun b hb hl=>Zo u7 hl fun e=>by have:=hb.1;omega) fun b hb=>?_⟩
      ·have:=oy21.lt hb;exact ⟨by omega,by omega⟩
      ·have:=ol.lt hb;exact ⟨by omega,by omega⟩
      ·exact ⟨by omega,by omega⟩
    ·refine rI (Zb cv rfl) (rS (Zb cv rfl) (rL (s:=z.2.2.2.1) (Zb cv rfl) ⟨?_,?_⟩))
     ·refine ZiP row3 hnl fun y h8 e8 oy=>?_
      have cv8:=Zl cv e8
      have hs8:sz h8=h8.size:=rfl
      refine ⟨hv4 cv8 rfl,hv4 cv8 rfl,YX fun h10 c10 e10 z10=>⟨hv4 (Zl cv8 e10) rfl,hv4 (Zl cv8 e10) rfl,ZeW c10 (by show 4<=4;omega) rfl fun h11 c11 u11 z11=>?_⟩⟩
      have sz8:sz h3<=sz h8:=e8.size
      refine ⟨(e8.trans e10).updS u11 fun j hj=>by omega,h8.size,y,rfl,by omega,c11,(oy.congr fun b _ hb _=>Zq e10 hb).congr fun b hb hl hge=>Zo u11 hl fun e=>?_,fun e=>?_⟩
      ·have:=oy.lt hb;omega
      ·have:=oy.lt e;omega
     ·refine YX fun h13 c13 e13 z13=>⟨hv4 (Zl cv e13) rfl,hv4 (Zl cv e13) rfl,hv4 (Zl cv e13) rfl,?_⟩
      have hs13:sz h13=h13.size:=rfl
      refine ZiP (row3.ext e13) hnl fun y h15 e15 oy=>?_
      have cv15:=Zl (Zl cv e13) e15
      refine ⟨hv4 cv15 rfl,hv4 cv15 rfl,ZeW (Zl c13 e15) (by show 4<=4;omega) rfl fun h16 c16 u16 z16=>?_⟩
      refine ⟨(e13.trans e15).updS u16 fun j hj=>by omega,h3.size,y,rfl,by omega,c16,(oy.base (by omega)).congr fun b hb hl hge=>Zo u16 hl fun e=>?_,fun e=>?_⟩
      ·have:=oy.lt hb;omega
      ·have:=oy.lt e;omega
  intro m
  induction m with
  | zero =>
    intro h z v S K hm
    exact step (f126:=Zbj 0) fun i k t ns s r hd=>by have:=JL.drop_hei i v.sub hd;omega
  | succ m ih =>
    intro h z v S K hm
    exact step (f126:=Zbj (m+1)) fun i k t ns s r hd=>fun a b c d=>ih (v:=⟨k,t,ns,s⟩) (by have:=JL.drop_hei i v.sub hd;show s.hei<=m;omega) a b c d
end
end Go.Proofs.YtpjbjdheeemdiaaGreatDoor
