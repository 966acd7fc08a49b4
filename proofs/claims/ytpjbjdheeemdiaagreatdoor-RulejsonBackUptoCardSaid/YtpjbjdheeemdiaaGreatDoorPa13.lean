/- How great a number is, from its digits; a nought more at the end of its fraction changes nothing. No program. -/
import Derived.Lib.AtoiAllCases
import Derived.Lib.ItoaNum
import Derived.Lib.ItoaLen
import Derived.Lib.AtoiAll
import Derived.Test.YtpjbjdheeemdiaaGreatDoorPa12
set_option linter.unusedVariables false
set_option linter.unusedSimpArgs false
namespace Go.Js
open Go
def Dg (l:BL):Prop:=∀ c∈l,ZbS c=true
theorem Dg.nil:Dg []:=fun _ h=>by cases h
theorem Dg.cons {c:UInt8} {l:BL} (a:ZbS c=true) (h:Dg l):Dg (c::l):=fun d hd=>by
  rcases Awr.1 hd with rfl | hd
  ·exact a
  ·exact h d hd
theorem Dg.app {a b:BL} (c:Dg a) (e:Dg b):Dg (a++b):=fun d hd=>by
  rcases Axz.1 hd with hd | hd
  ·exact c d hd
  ·exact e d hd
theorem Zfb {c:UInt8}:ZbS c=true↔48<=c.toNat/\c.toNat<=57:=by unfold ZbS;simp
theorem Dg.ne {l:BL} (h:Dg l) {x:UInt8} (a:x.toNat<48\/57<x.toNat):x∉l:=fun hm=>by
  have:=Zfb.1 (h x hm);omega
def mnB (neg:Bool):BL:=if neg then [45] else []
def ZHr (I:BL):Prop:=I=[48]\/∃ c r,I=c::r/\c≠48/\Dg (c::r)
def ZtW (f:BL):Prop:=f=[]\/∃ F,f=46::F/\F≠[]/\Dg F
def ZFz (e:BL):Prop:=e=[]\/∃ c s E,e=c::(s++E)/\(c=101\/c=69)/\(s=[]\/s=[43]\/s=[45])/\E≠[]/\Dg E
theorem ZHr.dg {I:BL} (h:ZHr I):Dg I/\I≠[]:=by
  rcases h with rfl | ⟨c,r,rfl,_,h⟩
  ·exact ⟨Dg.cons rfl Dg.nil,by simp⟩
  ·exact ⟨h,by simp⟩
theorem ZtW.dg {f:BL} (h:ZtW f):Dg f.tail:=by
  rcases h with rfl | ⟨F,rfl,_,h⟩
  ·exact Dg.nil
  ·exact h
def noDig (r:BL):Prop:=∀ c l,r=c::l->ZbS c=false
theorem Zu6:∀ {D r:BL},Dg D->noDig r->(D++r).dropWhile ZbS=r
  | [],r,_,a=>by
    rcases r with _ | ⟨c,r⟩
    ·rfl
    ·rw [Ayq,Ayj (by simp [a c r rfl])]
  | c::D,r,h,a=>by
    rw [Ayp,Ayi (h c (by simp))]
    exact Zu6 (fun d hd=>h d (Aws _ hd)) a
theorem ZjY {D r:BL} (a:D≠[]) (h:Dg D) (b:noDig r):Xp (D++r) = .ok () r:=by
  rcases D with _ | ⟨c,D⟩
  ·exact absurd rfl a
  ·show (if ZbS c then Out.ok () ((D++r).dropWhile ZbS) else _)=_
   rw [if_pos (h c (by simp)),Zu6 (fun d hd=>h d (Aws _ hd)) b]
theorem ZFz.noDig {e:BL} (h:ZFz e):noDig e:=by
  rintro c l rfl
  rcases h with h | ⟨d,s,E,h,a,_⟩
  ·cases h
  ·cases h
   rcases a with rfl | rfl<;>rfl
theorem ZtW.noDig {f e:BL} (h:ZtW f) (he:ZFz e):noDig (f++e):=by
  rcases h with rfl | ⟨F,rfl,_⟩
  ·exact he.noDig
  ·rintro c l a
   cases a;rfl
theorem ZA9 {neg:Bool} {I f e:BL} (i:ZHr I) (b:ZtW f) (he:ZFz e):Zih (mnB neg++(I++(f++e))) = .ok () []:=by
  have k:Zee (mnB neg++(I++(f++e)))=I++(f++e):=by
    cases neg with
    | true=>rfl
    | false =>
      show Zee (I++(f++e))=_
      obtain ⟨hd,m⟩:=i.dg
      rcases I with _ | ⟨c,I⟩
      ·exact absurd rfl m
      ·show (if c=45 then _ else _)=_
       rw [if_neg fun a=>by have:=hd c (by simp);rw [a] at this;cases this]
       rfl
  have n:ZlW (I++(f++e)) = .ok () (f++e):=by
    rcases i with rfl | ⟨c,r,rfl,a,hd⟩
    ·show Zda (f++e)=_
     have o:=b.noDig he
     rcases g:f++e with _ | ⟨d,l⟩
     ·rfl
     ·show (if ZbS d then _ else _)=_
      rw [if_neg (by simp [o d l g])]
    ·show (if c=48 then _ else _)=_
     rw [if_neg a]
     exact ZjY (D:=c::r) (by simp) hd (b.noDig he)
  have p:ZiL (f++e) = .ok () e:=by
    rcases b with rfl | ⟨F,rfl,q,hd⟩
    ·rcases he with rfl | ⟨c,s,E,rfl,a,_⟩
     ·rfl
     ·show (if c=46 then _ else _)=_
      rw [if_neg (by rcases a with rfl | rfl<;>decide)]
    ·show (if (46:UInt8)=46 then Xp (F++e) else .ok () (46::(F++e)))=_
     rw [if_pos rfl,ZjY q hd he.noDig]
  have t:Znl e = .ok () []:=by
    rcases he with rfl | ⟨c,s,E,rfl,a,u,j,hd⟩
    ·rfl
    ·show (if c=101\/c=69 then Xp (Zkh (s++E)) else _)=_
     have:Zkh (s++E)=E:=by
       rcases u with rfl | rfl | rfl
       ·rcases E with _ | ⟨d,E⟩
        ·exact absurd rfl j
        ·show (if d=43\/d=45 then _ else _)=_
         have:=hd d (by simp)
         rw [if_neg (by rintro (rfl | rfl)<;>cases this)]
       ·rfl
       ·rfl
     rw [if_pos a,this]
     have:=ZjY (r:=[]) j hd (fun c l h=>by cases h)
     rwa [Ayt] at this
  unfold Zih
  rw [k,n]
  show (ZiL (f++e)).bind _=_
  rw [p]
  exact t
def Zfv (a:Nat) (l:BL):Nat:=l.foldl (fun a c=>a*10+(c.toNat - 48)) a
theorem Zd7 (a:Nat) (c:UInt8) (l:BL):Zfv a (c::l)=Zfv (a*10+(c.toNat - 48)) l:=by
  unfold Zfv
  rw [Awq]
theorem ZpK (a:Nat) (x y:BL):Zfv a (x++y)=Zfv (Zfv a x) y:=by
  induction x generalizing a with
  | nil=>rfl
  | cons c x b=>rw [Ayp,Zd7,Zd7];exact b _
theorem Zmi (l:BL) (a:Nat):a*10 ^ l.length<=Zfv a l:=by
  induction l generalizing a with
  | nil=>exact Nat.le_of_eq (Aqv a)
  | cons c l b =>
    have:=b (a*10+(c.toNat - 48))
    rw [Zd7,Aqj,Nat.pow_succ]
    generalize 10 ^ l.length=e at *
    refine Aqp ?_ this
    rw [Azf e 10,<- Axg]
    exact Aqz _ (Nat.le_add_right _ _)
theorem ZEg (l:BL) (a:Nat):a<=Zfv a l:=by
  have:=Zmi l a
  have h:1<=10 ^ l.length:=Nat.pow_pos (by decide)
  have:=Nat.mul_le_mul_left a h
  omega
theorem Zol (k a:Nat):Zfv a (Lib.repeatL [48] k)=a*10 ^ k:=by
  induction k generalizing a with
  | zero=>exact (Aqv a).symm
  | succ k b =>
    rw [show Lib.repeatL [48] (k+1)=48::Lib.repeatL [48] k from rfl,Zd7,b,Nat.pow_succ]
    rw [show a*10+((48:UInt8).toNat - 48)=a*10 from rfl,Axg,Azf 10]
theorem ZEC (l:BL) (a:Nat) (h:Dg l) (b:a<18446744073709551616):Lib.parseUint10 a l=if Zfv a l<18446744073709551616 then .ok (Zfv a l) else .range:=by
  induction l generalizing a with
  | nil =>
    rw [show Zfv a []=a from rfl,if_pos b];rfl
  | cons c l e =>
    have f:=Zfb.1 (h c (by simp))
    have g:Dg l:=fun d hd=>h d (Aws _ hd)
    have i:=Zd7 a c l
    have j:=ZEg l (a*10+(c.toNat - 48))
    rw [i]
    show (if 48<=c.toNat/\c.toNat<=57 then _ else _)=_
    rw [if_pos f]
    split
    ·rw [if_neg (by omega)]
    split
    ·rw [if_neg (by omega)]
    ·exact e _ g (by omega)
theorem ZGM {l:BL} (h:Dg l) (a:l≠[]):Lib.parseMag l=if Zfv 0 l<18446744073709551616 then .ok (Zfv 0 l) else .range:=by
  unfold Lib.parseMag
  rw [if_neg a,ZEC l 0 h (by decide)]
theorem Zlj {l:BL} (h:Dg l) (a:l≠[]):Lib.atoiAll l=if Zfv 0 l<9223372036854775808 then .ok (Zfv 0 l:Int) else .range:=by
  rcases l with _ | ⟨c,l⟩
  ·exact absurd rfl a
  have e:=Zfb.1 (h c (by simp))
  rw [Lib.atoiAll_plain c l (by omega) (by omega),ZGM h a]
  by_cases b:Zfv 0 (c::l)<18446744073709551616
  ·rw [if_pos b]
   show (if 9223372036854775808<=Zfv 0 (c::l) then _ else _)=_
   by_cases d:Zfv 0 (c::l)<9223372036854775808
   ·rw [if_pos d,if_neg (by omega)]
   ·rw [if_neg d,if_pos (by omega)]
  ·rw [if_neg b,if_neg (by omega)];rfl
theorem Zlk {l:BL} (h:Dg l) (c:l≠[]):Lib.atoiAll (45::l)=if Zfv 0 l<=9223372036854775808 then .ok (-(Zfv 0 l:Int)) else .range:=by
  rw [Lib.atoiAll_minus,ZGM h c]
  by_cases a:Zfv 0 l<18446744073709551616
  ·rw [if_pos a]
   show (if 9223372036854775808<Zfv 0 l then _ else _)=_
   by_cases b:Zfv 0 l<=9223372036854775808
   ·rw [if_pos b,if_neg (by omega)]
   ·rw [if_neg b,if_pos (by omega)]
  ·rw [if_neg a,if_neg (by omega)];rfl
theorem ZrZ {c:UInt8}:∀ {a b:BL},c∉a->Lib.index (a++c::b) [c]=a.length
  | [],b,_=>by
    rw [Ayq]
    unfold Lib.index
    rw [if_pos (by simp)];rfl
  | d::a,b,h=>by
    have hd:c≠d:=fun e=>h (by rw [e];simp)
    rw [Ayp]
    unfold Lib.index
    rw [ZrZ (a:=a) (fun hm=>h (Aws _ hm)),if_neg (by simp [hd])]
    simp
theorem Zo3 {c:UInt8}:∀ {a:BL},c∉a->Lib.index a [c] = -1
  | [],_=>rfl
  | d::a,h=>by
    have hd:c≠d:=fun e=>h (by rw [e];simp)
    unfold Lib.index
    rw [Zo3 (a:=a) (fun hm=>h (Aws _ hm)),if_neg (by simp [hd])]
    rfl
theorem Zzx {c:UInt8} {a b:BL} (h:c∉a):Lib.cut (a++c::b) [c]=(a,b,true):=by
  unfold Lib.cut
  rw [ZrZ h,if_pos (by omega)]
  simp only [Aqu,List.length_singleton,Prod.mk.injEq,and_true]
  exact ⟨List.take_left,by rw [List.drop_append,Azh (by omega)];simp⟩
theorem Zu8 {c:UInt8} {a:BL} (h:c∉a):Lib.cut a [c]=(a,[],false):=by
  unfold Lib.cut
  rw [Zo3 h,if_neg (by decide)]
theorem ZlV:∀ {l:BL},Dg l->Lib.toLowerA l=l
  | [],_=>rfl
  | c::l,h=>by
    have a:=Zfb.1 (h c (by simp))
    have:=ZlV (l:=l) fun d hd=>h d (Aws _ hd)
    unfold Lib.toLowerA at this ⊢
    rw [Awo,this]
    congr 1
    unfold Lib.lowerB
    rw [if_neg]
    simp only [Lib.isUpperB,Awn,decide_eq_true_eq,UInt8.le_iff_toNat_le]
    rintro ⟨b,_⟩
    have:(65:UInt8).toNat=65:=rfl
    omega
def ZAO (neg:Bool) (D:BL) (p:Int):Option Int :=
  let d:=Lib.trimLeftB D 48
  let g:=Lib.trimRightB d 48
  if g=[] then some 0 else
    let y:=p+((d.length:Int) - g.length)
    if y<0\/20<y\/19<g.length+y then none
    else if neg then (if Zfv 0 g*10 ^ y.toNat<=9223372036854775808 then some (-((Zfv 0 g*10 ^ y.toNat:Nat):Int)) else none)
    else if Zfv 0 g*10 ^ y.toNat<9223372036854775808 then some ((Zfv 0 g*10 ^ y.toNat:Nat):Int) else none
theorem ZvB (d:BL):Lib.trimRightB (d++[48]) 48=Lib.trimRightB d 48:=by
  unfold Lib.trimRightB
  rw [List.reverse_append,List.reverse_singleton,List.singleton_append,Ayi (by rfl)]
def Zu3 (e:BL):Int:=match e with
  | []=>0
  | _::45::E=> -(Zfv 0 E:Int)
  | _::43::E=>Zfv 0 E
  | _::E=>Zfv 0 E
theorem Zzm (c:UInt8) (E:BL):Zu3 (c::43::E)=Zfv 0 E:=rfl
theorem Zwt (c:UInt8) (E:BL):Zu3 (c::45::E) = -(Zfv 0 E:Int):=rfl
theorem ZFf (c:UInt8) {E:BL} (a:E≠[]) (h:Dg E):Zu3 (c::E)=Zfv 0 E:=by
  rcases E with _ | ⟨d,E⟩
  ·exact absurd rfl a
  ·have hd:=h d (by simp)
   unfold Zu3
   split
   ·rename_i h;cases h
   ·rename_i h;cases h;cases hd
   ·rename_i h;cases h;cases hd
   ·rename_i h;cases h;rfl
theorem ZHb {e:BL} (h:ZFz e):ZFF e.tail=if -1048576<=Zu3 e/\Zu3 e<=1048576 then some (Zu3 e) else none:=by
  rcases h with rfl | ⟨c,s,E,rfl,l,i,f,hd⟩
  ·rfl
  ·have g:∀ v:Nat,(-1048576:Int)<=v/\(v:Int)<=1048576->v<9223372036854775808:=fun v h=>by omega
   have b:∀ v:Nat,(-1048576:Int)<= -(v:Int)/\ -(v:Int)<=1048576->v<=9223372036854775808:=fun v h=>by omega
   have key:∀ s':BL,ZtG s'=E->s'≠[]->ZFF s'=if -1048576<=(Zfv 0 E:Int)/\(Zfv 0 E:Int)<=1048576 then some (Zfv 0 E:Int) else none:=fun s' j k=>by
     unfold ZFF
     rw [if_neg k,j,Zlj hd f]
     by_cases a:Zfv 0 E<9223372036854775808
     ·rw [if_pos a]
     ·rw [if_neg a,if_neg fun h=>a (g _ h)]
   rcases i with rfl | rfl | rfl
   ·rw [Ayq,ZFf c f hd]
    refine key E ?_ f
    rcases E with _ | ⟨d,E⟩
    ·rfl
    ·show (if d=43 then _ else _)=_
     rw [if_neg fun h=>by have:=hd d (by simp);rw [h] at this;cases this]
   ·rw [show c::([43]++E)=c::43::E from rfl,Zzm]
    exact key (43::E) rfl (by simp)
   ·rw [show c::([45]++E)=c::45::E from rfl,Zwt]
    show ZFF (45::E)=_
    unfold ZFF
    rw [if_neg (by simp),show ZtG (45::E)=45::E from rfl,Zlk hd f]
    by_cases a:Zfv 0 E<=9223372036854775808
    ·rw [if_pos a]
    ·rw [if_neg a,if_neg fun h=>a (b _ h)]
theorem ZAC {D:BL} (h:Dg D):Dg (Lib.trimLeftB D 48):=fun c a=>h c ((Ayf _).subset a)
theorem ZxI (d:BL):Lib.trimRightB d 48 <+: d:=by
  unfold Lib.trimRightB
  have:=Ayf (· ==(48:UInt8)) (l:=d.reverse)
  have:=List.reverse_prefix.2 this
  rwa [List.reverse_reverse] at this
theorem Zoq:∀ {D:BL} {c:UInt8} {l:BL},Lib.trimLeftB D 48=c::l->c≠48
  | [],_,_,h=>by cases h
  | d::D,c,l,h=>by
    unfold Lib.trimLeftB at h
    by_cases hd:d=48
    ·rw [Ayi (by simp [hd])] at h
     exact Zoq (D:=D) h
    ·rw [Ayj (by simp [hd])] at h
     cases h;exact hd
theorem Zvw {neg:Bool} {I f e:BL} (V:ZHr I) (S:ZtW f) (he:ZFz e) (W:(mnB neg++(I++(f++e))).length<=65536) :
    Zxn (mnB neg++(I++(f++e)))=ZAO neg (I++f.tail) (Zu3 e - f.tail.length):=by
  obtain ⟨i,L⟩:=V.dg
  have u:=S.dg
  have X:ZqK (mnB neg++(I++(f++e)))=(I++(f++e),neg):=by
    cases neg with
    | true=>rfl
    | false =>
      show ZqK (I++(f++e))=_
      rcases I with _ | ⟨c,I⟩
      ·exact absurd rfl L
      ·show (if c=45 then _ else _)=_
       rw [if_neg fun v=>by have:=i c (by simp);rw [v] at this;cases this]
       rfl
  have x:f=[]\/f=46::f.tail:=by
    rcases S with rfl | ⟨F,rfl,_⟩
    ·exact .inl rfl
    ·exact .inr rfl
  have M:Lib.toLowerA f=f:=by
    rcases x with h | h
    ·rw [h];rfl
    ·rw [h]
     show Lib.lowerB 46::Lib.toLowerA f.tail=_
     rw [ZlV u];rfl
  have C:(101:UInt8)∉I++f:=by
    intro hm
    rcases Axz.1 hm with hm | hm
    ·exact i.ne (.inr (by decide)) hm
    ·rcases x with h | h
     ·rw [h] at hm;cases hm
     ·rw [h] at hm
      rcases Awr.1 hm with h' | h'
      ·exact absurd h' (by decide)
      ·exact u.ne (.inr (by decide)) h'
  have N:∃ b,Lib.cut (Lib.toLowerA (I++(f++e))) [101]=(I++f,e.tail,b):=by
    rw [show Lib.toLowerA (I++(f++e))=I++(f++Lib.toLowerA e) by
      have a:=ZlV i
      unfold Lib.toLowerA at *
      rw [Ayy,Ayy,a,M]]
    rcases he with rfl | ⟨c,s,E,rfl,v,Y,hE,hd⟩
    ·refine ⟨false,?_⟩
     rw [show Lib.toLowerA []=[] from rfl,Ayt]
     exact Zu8 C
    ·refine ⟨true,?_⟩
     have:Lib.toLowerA (c::(s++E))=101::(s++E):=by
       have a:=ZlV hd
       unfold Lib.toLowerA at *
       rw [Awo,Ayy,a]
       rw [show Lib.lowerB c=101 by rcases v with rfl | rfl<;>rfl]
       rcases Y with rfl | rfl | rfl<;>rfl
     rw [this,<- Ayz]
     exact Zzx C
  obtain ⟨bb,N⟩:=N
  have O:∃ b,Lib.cut (I++f) [46]=(I,f.tail,b):=by
    rcases x with h | h
    ·rw [h,Ayt];exact ⟨false,Zu8 (i.ne (.inl (by decide)))⟩
    ·rw [h];exact ⟨true,Zzx (i.ne (.inl (by decide)))⟩
  obtain ⟨bc,O⟩:=O
  have hlen:I.length+f.tail.length<=65536:=by
    have:f.tail.length<=f.length:=by rw [List.length_tail];omega
    simp only [Awe] at W;omega
  have P:=ZxK (I++f.tail) 48
  have Z:=ZxJ (Lib.trimLeftB (I++f.tail) 48) 48
  have Q:=ZAC (i.app u)
  have p:=ZxI (Lib.trimLeftB (I++f.tail) 48)
  have z:∀ c l,Lib.trimRightB (Lib.trimLeftB (I++f.tail) 48) 48=c::l->c≠48:=fun c l h=>by
    obtain ⟨r,T⟩:=p
    rw [h] at T
    exact Zoq T.symm
  unfold Zxn ZAO
  rw [X]
  dsimp only
  rw [N]
  dsimp only
  rw [O]
  dsimp only
  rw [ZHb he]
  rw [Awe] at P
  generalize Lib.trimLeftB (I++f.tail) 48=d at *
  have D:Dg (Lib.trimRightB d 48):=fun c v=>Q c (p.subset v)
  generalize Lib.trimRightB d 48=g at *
  by_cases G:g=[]
  ·rw [if_pos G,if_pos G]
  rw [if_neg G,if_neg G]
  obtain ⟨c,H,j⟩:=Ayh G
  have R:10 ^ H.length<=Zfv 0 g:=by
    have v:=z c H j
    have aa:=Zfb.1 (D c (by rw [j];simp))
    have ab:c.toNat≠48:=fun e=>v (UInt8.toNat_inj.1 e)
    rw [j]
    rw [Zd7]
    refine Aqp ?_ (Zmi H _)
    exact Nat.le_mul_of_pos_left _ (by omega)
  by_cases U : -1048576<=Zu3 e/\Zu3 e<=1048576
  ·rw [if_pos U]
   dsimp only
   have hy:Zu3 e+((d.length:Int) - g.length - f.tail.length)=Zu3 e - f.tail.length+((d.length:Int) - g.length):=by omega
   rw [hy]
   generalize Zu3 e - f.tail.length+((d.length:Int) - g.length)=y
   by_cases m:y<0
   ·rw [if_pos m,if_pos (.inl m)]
   by_cases A:20<y
   ·rw [if_neg m,if_pos A,if_pos (.inr (.inl A))]
   rw [if_neg m,if_neg A]
   obtain ⟨k,rfl⟩:∃ k:Nat,y=k:=⟨y.toNat,by omega⟩
   rw [Aqu]
   have q:Zfv 0 (g++Lib.repeatL [48] k)=Zfv 0 g*10 ^ k:=by rw [ZpK,Zol]
   have J:Dg (g++Lib.repeatL [48] k):=by
     refine D.app ?_
     have:∀ n,Dg (Lib.repeatL [48] n):=fun n=>by
       induction n with
       | zero=>exact Dg.nil
       | succ n ih=>exact Dg.cons rfl ih
     exact this k
   have K:g++Lib.repeatL [48] k≠[]:=by rw [j];simp
   have t:19<(g.length:Int)+k->9223372036854775808<Zfv 0 g*10 ^ k:=fun hh=>by
     have h9:g.length=H.length+1:=by rw [j];rfl
     have a:=Aqz (10 ^ k) R
     rw [<- Nat.pow_add] at a
     have b:10 ^ 19<=10 ^ (H.length+k):=Nat.pow_le_pow_right (by decide) (by omega)
     have c:(9223372036854775808:Nat)<10 ^ 19:=by decide
     omega
   cases neg with
   | true =>
     rw [show (if true=true then [45] else [])++(g++Lib.repeatL [48] k)=45::(g++Lib.repeatL [48] k) from rfl,Zlk J K,q]
     generalize Zfv 0 g*10 ^ k=w at *
     by_cases B:19<(g.length:Int)+k
     ·have:=t B
      rw [if_neg (show ¬ w<=9223372036854775808 by omega),if_pos (show ((k:Int)<0\/20<(k:Int)\/19<(g.length:Int)+k) by omega)]
     ·rw [if_neg (show ¬ ((k:Int)<0\/20<(k:Int)\/19<(g.length:Int)+k) by omega),if_pos rfl]
      by_cases o:w<=9223372036854775808
      ·rw [if_pos o,if_pos o]
      ·rw [if_neg o,if_neg o]
   | false =>
     rw [show (if false=true then [45] else [])++(g++Lib.repeatL [48] k)=g++Lib.repeatL [48] k from rfl,Zlj J K,q]
     generalize Zfv 0 g*10 ^ k=w at *
     by_cases B:19<(g.length:Int)+k
     ·have:=t B
      rw [if_neg (show ¬ w<9223372036854775808 by omega),if_pos (show ((k:Int)<0\/20<(k:Int)\/19<(g.length:Int)+k) by omega)]
     ·rw [if_neg (show ¬ ((k:Int)<0\/20<(k:Int)\/19<(g.length:Int)+k) by omega),if_neg Bool.false_ne_true]
      by_cases o:w<9223372036854775808
      ·rw [if_pos o,if_pos o]
      ·rw [if_neg o,if_neg o]
  ·rw [if_neg U]
   dsimp only
   rw [if_pos (by omega)]
end Go.Js
namespace Go.Js
open Go
end Go.Js
namespace Go.Proofs.YtpjbjdheeemdiaaGreatDoor
open Go Go.Fw Go.Js
end Go.Proofs.YtpjbjdheeemdiaaGreatDoor
namespace Go.Js
open Go
theorem Zxs:∀ (n:Nat) {l:JL} {k:Nat} {t:BL} {ns:List BL} {s r:JL},l.drop n = .cons k t ns s r->wV ⟨k,t,ns,s⟩<=pw l
  | 0,l,k,t,ns,s,r,e=>by rw [show l=_ from e];simp only [pw,wV];omega
  | n+1,.nil,_,_,_,_,_,e=>by cases e
  | n+1,.cons _ _ _ _ a,_,_,_,_,_,e=>by have:=Zxs n (l:=a) e;simp only [pw];omega
end Go.Js
namespace Go.Proofs.YtpjbjdheeemdiaaGreatDoor
open Go Go.Fw Go.Js
end Go.Proofs.YtpjbjdheeemdiaaGreatDoor
namespace Go.Js
open Go
theorem ZAB {c:UInt8} (h:c≠48) (l:BL):Lib.trimLeftB (c::l) 48=c::l:=by unfold Lib.trimLeftB;rw [Ayj (by simp [h])]
theorem ZAA {c:UInt8} (h:c≠48) (l:BL):Lib.trimRightB (l++[c]) 48=l++[c]:=by
  unfold Lib.trimRightB
  rw [List.reverse_append,List.reverse_singleton,List.singleton_append,Ayj (by simp [h])]
  simp
end Go.Js
namespace Go.Proofs.YtpjbjdheeemdiaaGreatDoor
open Go Go.Fw Go.Js
section
variable {h:Zc}
end
end Go.Proofs.YtpjbjdheeemdiaaGreatDoor
namespace Go.Js
open Go
end Go.Js
namespace Go.Proofs.YtpjbjdheeemdiaaGreatDoor
open Go Go.Fw Go.Js
end Go.Proofs.YtpjbjdheeemdiaaGreatDoor
namespace Go.Js
open Go
theorem Zuu {k:Nat} (h:k<10):(UInt8.ofNat (48+k)).toNat=48+k:=by
  rw [UInt8.toNat_ofNat']
  exact Awv (by omega)
theorem ZtF (u:Nat):Zfv 0 (Lib.decDigits u)=u/\Dg (Lib.decDigits u)/\(1<=u->∃ c r,Lib.decDigits u=c::r/\c≠48):=by
  induction u using Nat.strongRecOn with
  | _ u d =>
    by_cases h:u<10
    ·rw [Lib.decDigits_one h]
     have e:=Zuu h
     refine ⟨?_,Dg.cons (Zfb.2 (by omega)) Dg.nil,fun j=>⟨_,_,rfl,fun f=>?_⟩⟩
     ·rw [Zd7,e]
      show 0*10+(48+u - 48)=u
      omega
     ·rw [f] at e
      have:(48:UInt8).toNat=48:=rfl
      omega
    ·obtain ⟨a,b,c⟩:=d (u / 10) (by omega)
     have e:=Zuu (k:=u % 10) (by omega)
     rw [Lib.decDigits,dif_neg h]
     refine ⟨?_,b.app (Dg.cons (Zfb.2 (by omega)) Dg.nil),fun _=>?_⟩
     ·rw [ZpK,Zd7,a,e]
      show u / 10*10+(48+u % 10 - 48)=u
      omega
     ·obtain ⟨x,r,g,i⟩:=c (by omega)
      exact ⟨x,r++[UInt8.ofNat (48+u % 10)],by rw [g];rfl,i⟩
theorem Zzw (u:Nat):ZHr (Lib.decDigits u):=by
  obtain ⟨_,b,c⟩:=ZtF u
  rcases Aqw u with h | h
  ·subst h;exact .inl (Lib.decDigits_one (by decide))
  ·obtain ⟨x,r,a,d⟩:=c h
   exact .inr ⟨x,r,a,d,by rw [<- a];exact b⟩
theorem ZAS (k:Nat):Lib.repeatL [(48:UInt8)] (k+1)=Lib.repeatL [48] k++[48]:=by rw [Lib.repeatL_add];rfl
theorem ZsV (n:Nat):∀ (D:BL),D.length<=n->∃ k,D=Lib.trimRightB D 48++Lib.repeatL [48] k:=by
  induction n with
  | zero =>
    intro D h
    have:D=[]:=Aqr (by omega)
    subst this
    exact ⟨0,rfl⟩
  | succ n b =>
    intro D h
    rcases List.eq_nil_or_concat D with rfl | ⟨x,c,rfl⟩
    ·exact ⟨0,rfl⟩
    ·rw [List.concat_eq_append] at *
     by_cases a:c=48
     ·subst a
      obtain ⟨k,d⟩:=b x (by simp at h;omega)
      rw [ZvB]
      refine ⟨k+1,?_⟩
      rw [ZAS,<- Ayz,<- d]
     ·rw [ZAA a]
      exact ⟨0,by simp [Lib.repeatL]⟩
theorem ZAN {neg:Bool} {u:Nat} (h:u<=9223372036854775808):ZAO neg (Lib.decDigits u) 0=if neg then some (-(u:Int)) else if u<9223372036854775808 then some (u:Int) else none:=by
  obtain ⟨a,b,c⟩:=ZtF u
  rcases Aqw u with f | f
  ·subst f
   rw [Lib.decDigits_one (by decide)]
   cases neg<;>rfl
  ·obtain ⟨x,r,d,l⟩:=c f
   have hd:Lib.trimLeftB (Lib.decDigits u) 48=Lib.decDigits u:=by rw [d,ZAB l]
   obtain ⟨k,m⟩:=ZsV _ (Lib.decDigits u) (Aqo _)
   have hlen:(Lib.decDigits u).length<=19:=by
     rw [Lib.decDigits_length]
     rcases Aqd 19 (Lib.nDigits u) with n | n
     ·exfalso
      have s:=Zmi r (x.toNat - 48)
      have t:Zfv 0 (Lib.decDigits u)=Zfv (x.toNat - 48) r:=by
        rw [d,Zd7]
        congr 1
        omega
      have v:r.length+1=Lib.nDigits u:=by rw [<- Lib.decDigits_length,d];rfl
      have p:=Zfb.1 (b x (by rw [d];simp))
      have o:x.toNat≠48:=fun e=>l (UInt8.toNat_inj.1 e)
      have w:10 ^ 19<=10 ^ r.length:=Nat.pow_le_pow_right (by decide) (by omega)
      have y:1*10 ^ r.length<=(x.toNat - 48)*10 ^ r.length:=Aqz _ (by omega)
      have z:(9223372036854775808:Nat)<10 ^ 19:=by decide
      omega
     ·exact n
   unfold ZAO
   rw [hd]
   generalize Lib.decDigits u=D at *
   have i:Zfv 0 (Lib.trimRightB D 48)*10 ^ k=u:=by
     rw [<- a]
     conv=>rhs;rw [m]
     rw [ZpK,Zol]
   have q:(Lib.trimRightB D 48).length+k=D.length:=by
     conv=>rhs;rw [m]
     rw [Awe,Lib.repeatL_length];simp
   dsimp only
   generalize Lib.trimRightB D 48=g at *
   have j:g≠[]:=by
     intro e
     subst e
     have:Zfv 0 []*10 ^ k=0:=by show 0*10 ^ k=0;omega
     omega
   rw [if_neg j,show (0:Int)+((D.length:Int) - g.length)=(k:Int) by omega,if_neg (by omega),Aqu,i]
   cases neg with
   | true=>rw [if_pos rfl,if_pos h,if_pos rfl]
   | false=>rw [if_neg Bool.false_ne_true,if_neg Bool.false_ne_true]
theorem ZrW (n:Int):∃ neg u,Lib.itoa n=mnB neg++Lib.decDigits u/\(neg=true->n = -(u:Int))/\(neg=false->n=u):=by
  unfold Lib.itoa
  by_cases h:n<0
  ·rw [if_pos h]
   exact ⟨true,n.natAbs,rfl,fun _=>by omega,fun h=>by cases h⟩
  ·rw [if_neg h]
   exact ⟨false,n.toNat,rfl,fun h=>(by cases h),fun _=>by omega⟩
theorem Zo1 {n:Int} (g : -9223372036854775808<=n) (h:n<=9223372036854775807):Zxn (Lib.itoa n)=some n/\Zih (Lib.itoa n) = .ok () []/\(Lib.itoa n).length<=65536:=by
  have i:=Lib.itoa_length_le n g h
  obtain ⟨neg,u,e,hp,c⟩:=ZrW n
  have a:mnB neg++Lib.decDigits u=mnB neg++(Lib.decDigits u++([]++[])):=by simp
  have d:=Zzw u
  have f:ZtW []:= .inl rfl
  have he:ZFz []:= .inl rfl
  refine ⟨?_,by rw [e,a];exact ZA9 d f he,by omega⟩
  have b:(mnB neg++(Lib.decDigits u++([]++[]))).length<=65536:=by rw [<- a,<- e];omega
  rw [e,a,Zvw d f he b]
  have hu:u<=9223372036854775808:=by
    cases neg with
    | true=>have:=hp rfl;omega
    | false=>have:=c rfl;omega
  have:=ZAN (neg:=neg) hu
  rw [show Zu3 [] - (([]:BL).tail.length:Int)=0 from rfl,show ([]:BL).tail=[] from rfl,Ayt,this]
  cases neg with
  | true=>rw [if_pos rfl,<- hp rfl]
  | false =>
    have:=c rfl
    rw [if_neg Bool.false_ne_true,if_pos (by omega),<- this]
end Go.Js
namespace Go.Proofs.YtpjbjdheeemdiaaGreatDoor
open Go Go.Fw Go.Js
theorem XO {t:BL} (h:ZgC ⟨4,t,[],.nil⟩=true):Zih t = .ok () []/\t.length<=65536:=by
  rcases (Zi4.1 h).1.1 with ⟨h,_⟩ | ⟨_,a,b,_⟩ | ⟨h,_⟩ | ⟨h,_⟩ | ⟨h,_⟩
  ·rcases h with h | h | h<;>cases h
  ·exact ⟨a,b⟩
  all_goals cases h
theorem ZjL {h:Zc} {s:ByteArray} {K:VT5->HP} (b:∀ h',Ext h h'->K (5,s,⟨none,0,0⟩,⟨none,0,0⟩,()) h'):ZaF s K h:=by
  unfold ZaF ZhZ
  refine YZ fun c d e i=>?_
  have a:obj c h.size=some (.cells zV.toArray 33 (0,0)):=d
  have k:sz h=h.size:=rfl
  exact ZbF (x:=⟨none,0,0⟩) (y:=⟨none,0,0⟩) a rfl fun f g z3=>b f (e.updS g fun j l=>by omega)
end Go.Proofs.YtpjbjdheeemdiaaGreatDoor
namespace Go.Js
open Go
inductive FK where
  | text | num | yes | word (ws:List BL) | texts | items
inductive MV where
  | t (s:BL) | n (i:Int) | b (x:Bool) | w (i:Nat) | ts (l:List BL) | is (l:List (BL × Int))
deriving DecidableEq
abbrev ZzZ:=List (BL × FK)
def ZCg (t:BL):Option Int:=match Lib.atoiAll t with
  | .ok v=>if Lib.itoa v=t then some v else none
  | _=>none
def JL.list:JL->List JV
  | .nil=>[]
  | .cons k t ns s r=>⟨k,t,ns,s⟩::r.list
theorem JL.list_len:∀ l:JL,l.list.length=l.len
  | .nil=>rfl
  | .cons _ _ _ _ r=>by simp [list,len,list_len r]
def ZkH {α β:Type} (f:α->Except Nat β):List α->Except Nat (List β)
  | []=> .ok []
  | a::l=>match f a with
    | .error e=> .error e
    | .ok b=>match ZkH f l with
      | .error e=> .error e
      | .ok c=> .ok (b::c)
def idxOf (t:BL):List BL->Nat->Option Nat
  | [],_=>none
  | w::ws,i=>if w=t then some i else idxOf t ws (i+1)
def Zrz (v:JV):Except Nat BL:=if v.k=5 then .ok v.t else .error 26
def Zdn:FK->JV->Except Nat MV
  | .text,v=>if v.k=5 then .ok (.t v.t) else .error 26
  | .num,v=>if v.k=4 then (match ZCg v.t with
    | some n=> .ok (.n n)
    | none=> .error 21) else .error 26
  | .yes,v=>if v.k=3 then .ok (.b true) else if v.k=2 then .ok (.b false) else .error 26
  | .word ws,v=>if v.k=5 then (match idxOf v.t ws 0 with
    | some i=> .ok (.w i)
    | none=> .error 26) else .error 26
  | .texts,v=>if v.k=6 then (match ZkH Zrz v.sub.list with
    | .ok l=> .ok (.ts l)
    | .error e=> .error e) else .error 26
  | .items,_=> .error 26
def Zbh {κ:Type} (a:BL):List (BL × κ)->Nat->Option (Nat × κ)
  | [],_=>none
  | (b,k)::r,j=>if b=a then some (j,k) else Zbh a r (j+1)
def Zhh {κ μ:Type} (rd:κ->JV->Except Nat μ) (F:List (BL × κ)):List BL->List (BL × JV)->List μ->Except Nat (List μ)
  | _,[],m=> .ok m
  | seen,(a,v)::r,m=>match Zbh a F 0 with
    | none=> .error 26
    | some (j,k)=>if a∈seen then .error 26 else match rd k v with
      | .error e=> .error e
      | .ok x=>Zhh rd F (seen++[a]) r (m.set j x)
def Xn {κ μ:Type} (rd:κ->JV->Except Nat μ) (F:List (BL × κ)) (m:List μ) (v:JV):Except Nat (List μ) :=
  if v.k=7/\v.ns.length=v.sub.len then Zhh rd F [] (v.ns.zip v.sub.list) m else .error 26
def tx (s:String):BL:=s.toUTF8.data.toList
def Zlc:ZzZ:=[(tx "value", .text),(tx "count", .num)]
def Zm1:List MV->BL × Int
  | [.t s,.n i]=>(s,i)
  | _=>([],0)
def ZaZ (v:JV):Except Nat (BL × Int):=match Xn Zdn Zlc [.t [],.n 0] v with
  | .ok m=> .ok (Zm1 m)
  | .error e=> .error e
def ZaR:FK->JV->Except Nat MV
  | .items,v=>if v.k=6 then (match ZkH ZaZ v.sub.list with
    | .ok l=> .ok (.is l)
    | .error e=> .error e) else .error 26
  | k,v=>Zdn k v
def ZhI (_:Unit) (v:JV):Except Nat JL:=if v.k=6 then .ok v.sub else .error 26
def Zgz:List BL:=[tx "direct", tx "relate", tx "chain"]
def ZgA:List BL:=[tx "reject", tx "warmup", tx "pace", tx "warmpace"]
def ZgH:List BL:=[tx "slow", tx "errors", tx "count"]
def Zn6:ZzZ:=[(tx "resource", .text),(tx "origin", .text),(tx "threads", .yes),(tx "count", .num),(tx "strategy", .word Zgz),(tx "ref", .text),(tx "shape", .word ZgA),(tx "warm", .num),(tx "queue", .num),(tx "cluster", .yes),(tx "id", .num),(tx "fallback", .yes)]
def Zsb:List MV:=[.t [],.t (tx "default"),.b false,.n 0,.w 0,.t [],.w 0,.n 0,.n 0,.b false,.n 0,.b false]
def Zjr:ZzZ:=[(tx "resource", .text),(tx "grade", .word ZgH),(tx "count", .num),(tx "slow", .num),(tx "least", .num),(tx "window", .num),(tx "recover", .num)]
def Zlw:List MV:=[.t [],.w 0,.n 0,.n 0,.n 0,.n 0,.n 0]
def Zts:ZzZ:=[(tx "resource", .text),(tx "index", .num),(tx "count", .num),(tx "seconds", .num),(tx "items", .items)]
def ZwF:List MV:=[.t [],.n 0,.n 0,.n 0,.is []]
def ZgN:ZzZ:=[(tx "qps", .num),(tx "threads", .num),(tx "rt", .num),(tx "load", .num),(tx "cpu", .num)]
def Zjz:List MV:=[.n (-1),.n (-1),.n (-1),.n (-1),.n (-1)]
def Zla:ZzZ:=[(tx "resource", .text),(tx "white", .yes),(tx "origins", .texts)]
def Zqt:List MV:=[.t [],.b false,.ts []]
theorem ZrB {k:FK} {v:JV} {e:Nat} (h:Zdn k v = .error e):e=26\/e=21:=by
  cases k<;>simp only [Zdn] at h
  case text =>
    split at h<;>cases h
    exact .inl rfl
  case num =>
    split at h
    ·split at h<;>cases h
     exact .inr rfl
    ·cases h;exact .inl rfl
  case yes =>
    split at h
    ·cases h
    ·split at h<;>cases h
     exact .inl rfl
  case word =>
    split at h
    ·split at h<;>cases h
     exact .inl rfl
    ·cases h;exact .inl rfl
  case texts =>
    split at h
    ·split at h
     ·cases h
     ·rename_i f he
      cases h
      refine .inl ?_
      generalize v.sub.list=l at he
      induction l with
      | nil=>cases he
      | cons a l c =>
        simp only [ZkH] at he
        split at he
        ·rename_i d b
         cases he
         unfold Zrz at b
         split at b<;>cases b
         rfl
        ·split at he
         ·rename_i d b
          cases he
          exact c b
         ·cases he
    ·cases h;exact .inl rfl
  case items=>cases h;exact .inl rfl
end Go.Js
namespace Go.Proofs.YtpjbjdheeemdiaaGreatDoor
open Go Go.Fw Go.Js
def Er (h:Zc) (R e:Nat):Prop:=∃ T,obj h R=some (.cells [.int .i64 (e:Int)].toArray T (0,0))
theorem Er.lt {h:Zc} {R e:Nat} (r:Er h R e):R<sz h:=by obtain ⟨T,a⟩:=r;exact ZaK a
theorem Er.upd {S:Nat->Prop} {h h':Zc} {R e:Nat} (r:Er h R e) (u:Upd S h h') (a:¬ S R):Er h' R e:=by
  have b:=r.lt
  obtain ⟨T,c⟩:=r
  exact ⟨T,(Zt u b a).trans c⟩
theorem Er.ext {h h':Zc} {R e:Nat} (r:Er h R e) (u:Ext h h'):Er h' R e:=r.upd (u.upd fun _=>False) fun h=>h
theorem Zfy {h:Zc} {R e:Nat} (r:Er h R e) {K:Int->Prop} (a:K (e:Int)):ldI h R 0 .i64 K:=by
  obtain ⟨T,b⟩:=r
  exact rI (Zb b rfl) a
theorem ZiO {h:Zc} {R:Nat} (r:Er h R 0) {e:Nat} {n:Int} (a:n=e) {K:HP} (b:∀ h',Er h' R e->Upd (· = R) h h'->sz h'=sz h->K h'):Yi (At R) n K h:=by
  unfold Yi ZcQ
  refine Zo (Zfy r (Zm rfl (Zo ?_)))
  obtain ⟨T,d⟩:=r
  subst a
  exact Zk2 d (by show 0<1;omega) rfl fun h' c u z=>b h' ⟨T,c⟩ u z
theorem ZjQ {h:Zc} {R:Nat} (r:Er h R 0) {z:VT5} {k:Int} {K:Bool->HP} (i:z.1=k->∀ h',Ext h h'->K true h') (j:z.1≠k->∀ h',Er h' R 26->Upd (· = R) h h'->K false h') :
    Zw (At R) z k K h:=by
  unfold Zw Zcg
  refine YZ fun d c3 c z3=>?_
  have a:obj d h.size=some (.cells (Xq z).toArray 33 (0,0)):=c3
  have m:=r.lt
  refine rI (Zb a rfl) (Zar (fun b=>Zo (ZiO (r.ext c) rfl fun f l g z4=>?_)) fun he=>?_)
  ·have c4:obj f h.size=some (.cells (Xq z).toArray 33 (0,0)):=ZG a g fun e=>by have:sz h=h.size:=rfl;omega
   refine rI (Zb c4 rfl) ?_
   show Yq (z.1 ==k) _
   rw [show (z.1 ==k)=false by simpa using b]
   exact j b f l (UN c g)
  ·refine rI (Zb a rfl) ?_
   show Yq (z.1 ==k) _
   rw [show (z.1 ==k)=true by simpa using he]
   exact i he d c
theorem ZG2 (t:BL):∀ (ws:List BL) (i j:Nat),idxOf t (ws.drop j) (i+j)=match ws.drop j with
    | []=>none
    | w::_=>if w=t then some (i+j) else idxOf t (ws.drop (j+1)) (i+(j+1)):=by
  intro ws i j
  cases hd:ws.drop j with
  | nil=>rfl
  | cons w r =>
    have e:ws.drop (j+1)=r:=by rw [<- Axp,hd];rfl
    simp only [idxOf,e]
    rfl
theorem ZuK {h:Zc} {ws:List BL} {x:Sl} (b:Row h x 1 (ws.map sV)) {t:BL} {K:Int->HP} (c:K (match idxOf t ws 0 with
    | some i=>(i:Int)
    | none=> -1) h):XA x (Zj t) K h:=by
  unfold XA
  have hlen:=Zb3 b
  have big:=b.big
  have cap:=b.cap
  refine Za (Zv (fun p h'=>h'=h/\∃ i:Nat,p.1=i/\i<=ws.length/\idxOf t ws 0=idxOf t (ws.drop i) (0+i)) (fun p _=>(ws.length - p.1).toNat) ⟨rfl,0,rfl,Ayk _,rfl⟩ ?_)
  rintro ⟨i0,u⟩ k ⟨rfl,i,a,hle,f⟩
  dsimp only at a ⊢
  subst a
  refine Zq (fun g=>?_) fun j=>?_
  ·have a:i<ws.length:=by omega
   obtain ⟨w,hw⟩:∃ w,ws[i]?=some w:=⟨ws[i],Ayb a⟩
   refine Za (ZgQ b hw rfl ?_)
   have hd:ws.drop i=w::ws.drop (i+1):=by rw [Ayl a];congr 1;exact (Azl.1 hw).2
   rw [Zas]
   have d:=ZG2 t ws 0 i
   rw [hd] at d
   simp only at d
   by_cases he:t=w
   ·rw [decide_eq_true he]
    refine Zm rfl (Za ?_)
    rw [f,hd,d,if_pos he.symm] at c
    simpa using c
   ·rw [decide_eq_false he]
    refine Zl rfl ?_
    rw [YA (by omega) (by omega)]
    refine ⟨⟨rfl,i+1,rfl,by omega,?_⟩,by omega⟩
    rw [f,hd,d,if_neg fun e=>he e.symm]
  ·refine Za ?_
   have:i=ws.length:=by omega
   subst this
   rw [f,Aym] at c
   exact c
theorem Zy5 {h:Zc} {ws:List BL} {x:Sl} (a:Row h x 1 (ws.map sV)) {t:BL} {K:Int->HP} (b:K (match idxOf t ws 0 with
    | some i=>(i:Int)
    | none=> -1) h):Xy x (Zj t) K h:=ZuK a b
theorem Zy4 {h:Zc} {ws:List BL} {x:Sl} (a:Row h x 1 (ws.map sV)) {t:BL} {K:Int->HP} (b:K (match idxOf t ws 0 with
    | some i=>(i:Int)
    | none=> -1) h):YR x (Zj t) K h:=ZuK a b
theorem Zr0 {t:BL}:∀ {ws:List BL} {i:Nat},(idxOf t ws i).isSome=true↔t∈ws
  | [],i=>by simp [idxOf]
  | w::ws,i=>by
    simp only [idxOf]
    split
    ·rename_i h;simp [h]
    ·rename_i h
     rw [Zr0,Awr]
     exact ⟨.inr,fun a=>a.resolve_left fun e=>h e.symm⟩
theorem Znv {h:Zc} {ws:List BL} {x:Sl} (b:Row h x 1 (ws.map sV)) {t:BL} {K:Bool->HP} (c:K (decide (t∈ws)) h):Z1 x (Zj t) K h:=by
  unfold Z1 XY
  refine Zy5 b ?_
  show Yq (decide ((match idxOf t ws 0 with
    | some i=>(i:Int)
    | none=> -1)>=0)) fun t2=>K t2 h
  have:decide ((match idxOf t ws 0 with
    | some i=>(i:Int)
    | none=> -1)>=0)=decide (t∈ws):=by
    have hm:=Zr0 (t:=t) (ws:=ws) (i:=0)
    cases a:idxOf t ws 0 with
    | none=>rw [a] at hm;simp only [Awf,Aqc,false_iff] at hm;simp [hm]
    | some i=>rw [a] at hm;simp only [Option.isSome_some,true_iff] at hm;simp [hm]
  rw [this]
  exact c
def ZfF (l:List (BL × Int)):List Value:=l.flatMap fun p=>[sV p.1,.int .i64 p.2]
def Zfu (h:Zc) (base:Nat) (v:Value):MV->Prop
  | .t s=>v=sV s
  | .n i=>v = .int .i64 i
  | .b x=>v = .bool x
  | .w i=>v = .int .u8 (i:Int)
  | .ts l=>∃ x,v=slV x/\Own h base x 1 (l.map sV)
  | .is l=>∃ x,v=slV x/\Own h base x 2 (ZfF l)
def Zha (B:Nat) (T:TypeId) (base:Nat) (m:List MV) (h:Zc):Prop :=
  ∃ vs:List Value,obj h B=some (.cells vs.toArray T (0,0))/\vs.length=m.length/\∀ (i:Nat) (x:MV),m[i]?=some x->∃ v:Value,vs[i]?=some v/\Zfu h base v x
theorem Zfu.congr {h h':Zc} {base:Nat} {v:Value} {m:MV} (c:Zfu h base v m) (he:∀ b,base<=b->b<sz h->obj h' b=obj h b):Zfu h' base v m:=by
  cases m<;>first
    | exact c
    | (obtain ⟨x,e,o⟩:=c;exact ⟨x,e,o.congr fun b _ a d=>he b d a⟩)
theorem Zha.lt {B:Nat} {T:TypeId} {base:Nat} {m:List MV} {h:Zc} (r:Zha B T base m h):B<sz h:=by obtain ⟨vs,c,_⟩:=r;exact ZaK c
theorem Zha.upd {S:Nat->Prop} {B:Nat} {T:TypeId} {base:Nat} {m:List MV} {h h':Zc} (r:Zha B T base m h) (u:Upd S h h') (a:¬ S B) (d:∀ b,S b->b<base\/sz h<=b):Zha B T base m h':=by
  obtain ⟨vs,c,l,g⟩:=r
  refine ⟨vs,ZG c u a,l,fun i x e=>?_⟩
  obtain ⟨v,f,j⟩:=g i x e
  exact ⟨v,f,j.congr fun b o k=>Zt u k fun n=>by rcases d b n with h | h<;>omega⟩
theorem Zha.ext {B:Nat} {T:TypeId} {base:Nat} {m:List MV} {h h':Zc} (r:Zha B T base m h) (u:Ext h h'):Zha B T base m h':=r.upd (u.upd fun _=>False) (fun h=>h) fun _ h=>h.elim
theorem Zha.put {B:Nat} {T:TypeId} {base:Nat} {m:List MV} {h:Zc} (r:Zha B T base m h) {j:Nat} {k x:MV} (n:m[j]?=some k) {v:Value} (o:Ye v=true) (D:B<base) (p:∀ h',Upd (· = B) h h'->Zfu h' base v x) {K:HP}
    (q:∀ h',Zha B T base (m.set j x) h'->Upd (· = B) h h'->sz h'=sz h->K h'):st h B j v K:=by
  obtain ⟨vs,c,l,g⟩:=r
  have d:j<vs.length:=by rw [l];exact (Azl.1 n).1
  refine Zk2 c d o fun h' s u z=>q h' ⟨vs.set j v,s,by simp [l],fun i y f=>?_⟩ u z
  by_cases a:j=i
  ·subst a
   rw [Ayv (by omega)] at f
   cases f
   exact ⟨v,by rw [Ayv d],p h' u⟩
  ·rw [Azr a] at f
   obtain ⟨w,t,A⟩:=g i y f
   exact ⟨w,by rw [Azr a];exact t,A.congr fun b E C=>Zt u C fun e=>by omega⟩
def mk:MV->Nat
  | .t _=>0 | .n _=>1 | .b _=>2 | .w _=>3 | .ts _=>4 | .is _=>5
theorem ZuA {m:List MV} {j:Nat} {b x:MV} (c:m[j]?=some b) (d:mk x=mk b):(m.set j x).map mk=m.map mk:=by
  apply Awy
  intro i
  rw [Awz,Awz]
  by_cases a:j=i
  ·subst a
   rw [Ayv (Azl.1 c).1,c]
   simp [d]
  ·rw [Azr a]
structure ZBU (h:Zc) (R B:Nat) (T:TypeId) (base:Nat) (m:List MV) (j:Nat) (res:Except Nat MV) (K:HP):Prop where
  ok:∀ x h',res = .ok x->Zha B T base (m.set j x) h'->Er h' R 0->Upd (fun b=>b=R\/b=B) h h'->K h'
  er:∀ e m' h',res = .error e->m'.map mk=m.map mk->Zha B T base m' h'->Er h' R e->Upd (fun b=>b=R\/b=B) h h'->K h'
structure ZCC (h:Zc) (R B:Nat) (T:TypeId) (base:Nat) (m:List MV) (j c1 c2:Nat):Prop where
  er:Er h R 0
  rcd:Zha B T base m h
  ne:B≠R
  rb:R<base
  bb:B<base
  box1:∃ T1,obj h c1=some (.cells [.pointer (At R)].toArray T1 (0,0))
  box2:∃ T2,obj h c2=some (.cells [.pointer (some ⟨B,j,none⟩)].toArray T2 (0,0))
  c1n:c1≠R/\c1≠B
  c2n:c2≠R/\c2≠B
theorem Zcp {h:Zc} {c:Nat} {p:Option Addr} (b:∃ a,obj h c=some (.cells [.pointer p].toArray a (0,0))) {K:Option Addr->Prop} (d:K p):Ze (At c) fun b o=>ldP h b o K:=by
  obtain ⟨a,b⟩:=b
  exact Zo (rP (Zb b rfl) d)
theorem ZCC.ext {h h':Zc} {R B:Nat} {T:TypeId} {base:Nat} {m:List MV} {j a c2:Nat} (s:ZCC h R B T base m j a c2) (u:Ext h h'):ZCC h' R B T base m j a c2:=by
  obtain ⟨b,c⟩:=s.box1
  obtain ⟨d,e⟩:=s.box2
  exact ⟨s.er.ext u,s.rcd.ext u,s.ne,s.rb,s.bb,⟨b,Zn c u⟩,⟨d,Zn e u⟩,s.c1n,s.c2n⟩
theorem ZBU.ext {h g:Zc} {R B:Nat} {T:TypeId} {base:Nat} {m:List MV} {j:Nat} {res:Except Nat MV} {K:HP} (l:ZBU h R B T base m j res K) (u:Ext h g):ZBU g R B T base m j res K :=
  ⟨fun x h' a b c d=>l.ok x h' a b c (UN u d),fun e i h' a b c d f=>l.er e i h' a b c d (UN u f)⟩
theorem ZCC.put {h:Zc} {R B:Nat} {T:TypeId} {base:Nat} {m:List MV} {j c c2:Nat} (s:ZCC h R B T base m j c c2) {d x:MV} (f:m[j]?=some d) {v:Value} (g:Ye v=true) (i:∀ h',Zfu h' base v x) {res:Except Nat MV} {K:HP}
    (l:ZBU h R B T base m j res K) (a:res = .ok x):Ze (At c2) fun b o=>ldP h b o fun t=>Ze t fun k n=>st h k n v K :=
  Zcp s.box2 (Zo (s.rcd.put f g s.bb (fun h' _=>i h') fun h' r u _=>l.ok x h' a r (s.er.upd u fun e=>s.ne e.symm) (u.mono fun _ _ e=> .inr e)))
theorem ZEk {h:Zc} {R B:Nat} {T:TypeId} {base:Nat} {m:List MV} {j n c2:Nat} (s:ZCC h R B T base m j n c2) {x:MV} (y:m[j]?=some x) {z:VT5} {v:JV} (E:z.1=v.k) (A:z.2.1=Zj v.t) {K:HP} (l:ZBU h R B T base m j (Zdn .text v) K) :
    YV z (At n) (At c2) K h:=by
  unfold YV Zbx
  refine YZ fun C c3 o z3=>?_
  have a:obj C h.size=some (.cells (Xq z).toArray 33 (0,0)):=c3
  have c:=s.ext o
  have p:=l.ext o
  refine Zcp c.box1 (rI (Zb a rfl) (rS (Zb a rfl) (rL (s:=z.2.2.1) (Zb a rfl) (rL (s:=z.2.2.2.1) (Zb a rfl) (ZjQ c.er (fun he q f=>Zm rfl ?_) fun g q D w=>Zl rfl ?_)))))
  ·have c4:=Zn a f
   have d:=c.ext f
   have i:v.k=5:=by have:z.1=5:=he;omega
   refine Zcp d.box2 (rS (Zb c4 rfl) ?_)
   refine Zo (d.rcd.put y rfl d.bb (fun h' _=>(show Zfu h' base (.string z.2.1) (.t v.t) by rw [A];rfl)) fun h' r u _=>(p.ext f).ok (.t v.t) h' (by simp [Zdn,i]) r (d.er.upd u fun e=>d.ne e.symm) (u.mono fun _ _ e=> .inr e))
  ·have i:v.k≠5:=fun e=>g (show z.1=5 by omega)
   exact p.er 26 m q (by simp [Zdn,i]) rfl (c.rcd.upd w c.ne fun b e=> .inl (by rw [e];exact c.rb)) D (w.mono fun _ _ e=> .inl e)
theorem ZGh {h:Zc} {R B:Nat} {T:TypeId} {base:Nat} {m:List MV} {j A c2:Nat} (s:ZCC h R B T base m j A c2) {C:MV} (n:m[j]?=some C) (p:mk C=2) {z:VT5} {v:JV} (L:z.1=v.k) {K:HP} (l:ZBU h R B T base m j (Zdn .yes v) K) :
    Y0 z (At A) (At c2) K h:=by
  unfold Y0 ZbU
  refine YZ fun E c3 D z3=>?_
  have a:obj E h.size=some (.cells (Xq z).toArray 33 (0,0)):=c3
  have d:=s.ext D
  have q:=l.ext D
  refine rI (Zb a rfl) (Zar (fun f=>Zcp d.box1 (rI (Zb a rfl) (rS (Zb a rfl) (rL (s:=z.2.2.1) (Zb a rfl) (rL (s:=z.2.2.2.1) (Zb a rfl) (ZjQ d.er (fun he F t=>?_) fun g F G o=>?_)))))) fun he=>?_)
  ·have c4:=Zn a t
   have i:=d.ext t
   have g:v.k=2:=by have:z.1=2:=he;omega
   have e:(z.1 ==3)=false:=by simpa using f
   refine Zcp i.box2 (rI (Zb c4 rfl) ?_)
   rw [show (z.1 ==(3:Int))=false from e]
   exact Zo (i.rcd.put n rfl i.bb (fun h' _=>(show Zfu h' base (.bool false) (.b false) from rfl)) fun h' r u _=>(q.ext t).ok (.b false) h' (by simp [Zdn,g]) r (i.er.upd u fun e=>i.ne e.symm) (u.mono fun _ _ e=> .inr e))
  ·have H:h.size≠R:=fun e=>by have:=s.er.lt;have:sz h=h.size:=rfl;omega
   have c4:=ZG a o H
   obtain ⟨I,J⟩:=d.box2
   have w:v.k≠2:=fun e=>g (show z.1=2 by omega)
   have x:v.k≠3:=fun e=>f (show z.1=3 by omega)
   have e:(z.1 ==3)=false:=by simpa using f
   have y:=d.rcd.upd o d.ne fun b e=> .inl (by rw [e];exact d.rb)
   refine Zcp (c:=c2) ⟨I,ZG J o d.c2n.1⟩ (rI (Zb c4 rfl) ?_)
   rw [show (z.1 ==(3:Int))=false from e]
   exact Zo (y.put n rfl d.bb (fun h' _=>(show Zfu h' base (.bool false) (.b false) from rfl)) fun h' r u _=>q.er 26 (m.set j (.b false)) h' (by simp [Zdn,w,x]) (ZuA n (by rw [p];rfl)) r (G.upd u fun e=>d.ne e.symm) ((o.mono fun _ _ e=> .inl e).trans (u.mono fun _ _ e=> .inr e)))
  ·have g:v.k=3:=by have:z.1=3:=he;omega
   refine Zcp d.box2 (rI (Zb a rfl) ?_)
   rw [show (z.1 ==(3:Int))=true by simpa using he]
   exact Zo (d.rcd.put n rfl d.bb (fun h' _=>(show Zfu h' base (.bool true) (.b true) from rfl)) fun h' r u _=>q.ok (.b true) h' (by simp [Zdn,g]) r (d.er.upd u fun e=>d.ne e.symm) (u.mono fun _ _ e=> .inr e))
theorem Zyx {h:Zc} {R B:Nat} {T:TypeId} {base:Nat} {m:List MV} {j D c2:Nat} (s:ZCC h R B T base m j D c2) {M:MV} (N:m[j]?=some M) (ht:ZaT h) {z:VT5} {v:JV} (X:z.1=v.k) (E:z.2.1=Zj v.t) (O:v.t.length<=281474976710656) {K:HP}
    (l:ZBU h R B T base m j (Zdn .num v) K):YE z (At D) (At c2) K h:=by
  unfold YE ZaV
  refine YZ fun P c3 y z3=>?_
  have a:obj P h.size=some (.cells (Xq z).toArray 33 (0,0)):=c3
  have f:=s.ext y
  have F:=l.ext y
  have t3:=ht.ext y
  refine Zcp f.box1 (rI (Zb a rfl) (rS (Zb a rfl) (rL (s:=z.2.2.1) (Zb a rfl) (rL (s:=z.2.2.2.1) (Zb a rfl) (ZjQ f.er (fun he G q=>Zl rfl ?_) fun A G Q H=>Zm rfl ?_)))))
  ·have c4:=Zn a q
   have I:=f.ext q
   have J:=F.ext q
   have t4:=t3.ext q
   have g:v.k=4:=by have:z.1=4:=he;omega
   refine rS (Zb c4 rfl) ?_
   rw [show z.2.1=Zj v.t from E]
   refine ZzL O t4 (fun n S i d=>Za (.inl ⟨rfl,Zl rfl ?_⟩)) fun n t p S i d=>Za (.inr ⟨_,_,rfl,Zm rfl ?_⟩)
   ·have c5:=Zn c4 d
    have t5:=t4.ext d
    obtain ⟨U,V⟩:=Lib.atoiAll_bounds i
    refine rS (Zb c5 rfl) ⟨t5,U,V,fun Y C=>ZdD (Zb (Zn c5 C) rfl) ?_⟩
    have c:=(I.ext d).ext C
    have L:=(J.ext d).ext C
    rw [show z.2.1=Zj v.t from E,Zas]
    by_cases x:Lib.itoa n=v.t
    ·rw [decide_eq_true x]
     refine Zl rfl (Zcp c.box2 (Zo (c.rcd.put N rfl c.bb (fun h' _=>(show Zfu h' base (.int .i64 n) (.n n) from rfl)) fun h' r u _=>L.ok (.n n) h' ?_ r (c.er.upd u fun e=>c.ne e.symm) (u.mono fun _ _ e=> .inr e))))
     simp [Zdn,g,ZCg,i,x]
    ·rw [decide_eq_false x]
     refine Zm rfl (Zcp c.box1 (Zo (ZiO c.er rfl fun h' r u _=>L.er 21 m h' ?_ rfl (c.rcd.upd u c.ne fun b e=> .inl (by rw [e];exact c.rb)) r (u.mono fun _ _ e=> .inl e))))
     simp [Zdn,g,ZCg,i,x]
   ·have o:=I.ext d
    have W:=J.ext d
    refine Zcp o.box1 (Zo (ZiO o.er rfl fun h' r u _=>W.er 21 m h' ?_ rfl (o.rcd.upd u o.ne fun b e=> .inl (by rw [e];exact o.rb)) r (u.mono fun _ _ e=> .inl e)))
    have:ZCg v.t=none:=by
      unfold ZCg
      split
      ·rename_i w hw;exact absurd hw (i w)
      ·rfl
    simp [Zdn,g,this]
  ·have g:v.k≠4:=fun e=>A (show z.1=4 by omega)
   exact F.er 26 m G (by simp [Zdn,g]) rfl (f.rcd.upd H f.ne fun b e=> .inl (by rw [e];exact f.rb)) Q (H.mono fun _ _ e=> .inl e)
theorem ZuL {t:BL}:∀ {ws:List BL} {i k:Nat},idxOf t ws i=some k->k<i+ws.length
  | [],_,_,h=>by cases h
  | w::ws,i,k,h=>by
    simp only [idxOf] at h
    split at h
    ·cases h;simp
    ·have:=ZuL h
     simp only [Aqj]
     omega
def ZCq (F j:Nat):Prop:=(F=140/\j=4)\/(F=141/\j=6)\/(F=142/\j=1)
theorem ZEc {h:Zc} {R B:Nat} {T:TypeId} {base:Nat} {m:List MV} {j D c2 c3:Nat} (er:Er h R 0) (rc:Zha B T base m h) (ne:B≠R) (rb:R<base) (bb:B<base) (box1:∃ E,obj h D=some (.cells [.pointer (At R)].toArray E (0,0)))
    {x:Sl} {ws:List BL} (box2:∃ N,obj h c2=some (.cells [slV x].toArray N (0,0))) (g:Row h x 1 (ws.map sV)) (H:inS (fun b=>b<sz h) x) (hw:ws.length<=255) {F:Nat} (V:ZCq F j)
    (n:∃ O,obj h c3=some (.cells [.func (.func F) #[] #[.pointer (At B)]].toArray O (0,0))) {W:MV} (X:m[j]?=some W) {z:VT5} {v:JV} (h1:z.1=v.k) (Y:z.2.1=Zj v.t) {K:HP}
    (l:ZBU h R B T base m j (Zdn (.word ws) v) K):YU z (At D) (At c2) (At c3) K h:=by
  unfold YU Zbw
  refine YZ fun Z I p z3=>?_
  have q:obj Z h.size=some (.cells (Xq z).toArray 33 (0,0)):=I
  obtain ⟨E,P⟩:=box1
  obtain ⟨N,b2⟩:=box2
  obtain ⟨O,b3⟩:=n
  have J:=er.ext p
  refine Zcp (c:=D) ⟨E,Zn P p⟩ (rI (Zb q rfl) (rS (Zb q rfl) (rL (s:=z.2.2.1) (Zb q rfl) (rL (s:=z.2.2.2.1) (Zb q rfl) (ZjQ J (fun he d Q=>Zl rfl ?_) fun L d r4 S=>Zm rfl ?_)))))
  ·have a:=p.trans Q
   have c4:=Zn q Q
   have U:=l.ext a
   have y:=er.ext a
   have A:=rc.ext a
   have G:v.k=5:=by have:z.1=5:=he;omega
   have C:Row d x 1 (ws.map sV):=Ym g H fun b hb _=>Zu a hb
   refine Zo (rL (s:=x) (Zb (Zn b2 a) rfl) (rS (Zb c4 rfl) ?_))
   rw [show z.2.1=Zj v.t from Y]
   refine Zy4 C (Za ?_)
   cases M:idxOf v.t ws 0 with
   | none =>
     refine Zm rfl (Zcp (c:=D) ⟨E,Zn P a⟩ (Zo (ZiO y rfl fun h' r u _=>U.er 26 m h' (by simp [Zdn,G,M]) rfl (A.upd u ne fun b e=> .inl (by rw [e];exact rb)) r (u.mono fun _ _ e=> .inl e))))
   | some i =>
     have hi:=ZuL M
     have f:IntKind.wrap .u8 (i:Int)=(i:Int):=by rw [w8,Awv (by omega)]
     refine Zl (by simp) (Zo (rV (Zb (Zn b3 a) rfl) ?_))
     have fin:st d B j (.int .u8 (i:Int)) K:=A.put X rfl bb (fun h' _=>(show Zfu h' base (.int .u8 (i:Int)) (.w i) from rfl)) fun h' r u _=>U.ok (.w i) h' (by simp [Zdn,G,M]) r (y.upd u fun e=>ne e.symm) (u.mono fun _ _ e=> .inr e)
     rcases V with ⟨rfl,rfl⟩ | ⟨rfl,rfl⟩ | ⟨rfl,rfl⟩
     ·refine .inl ⟨(At B,()),rfl,?_⟩
      show Ze (At B) fun b o=>st d b (o+4) (.int .u8 (IntKind.wrap .u8 (i:Int))) K
      rw [f]
      exact Zo fin
     ·refine .inr (.inl ⟨(At B,()),rfl,?_⟩)
      show Ze (At B) fun b o=>st d b (o+6) (.int .u8 (IntKind.wrap .u8 (i:Int))) K
      rw [f]
      exact Zo fin
     ·refine .inr (.inr (.inl ⟨(At B,()),rfl,?_⟩))
      show Ze (At B) fun b o=>st d b (o+1) (.int .u8 (IntKind.wrap .u8 (i:Int))) K
      rw [f]
      exact Zo fin
  ·have G:v.k≠5:=fun e=>L (show z.1=5 by omega)
   have u:=UN p S
   exact l.er 26 m d (by simp [Zdn,G]) rfl ((rc.ext p).upd S ne fun b e=> .inl (by rw [e];exact rb)) r4 (u.mono fun _ _ e=> .inl e)
def Wr (R B base:Nat) (b:Nat):Prop:=b=R\/b=B\/base<=b
def Zn2 (m:List MV) (j:Nat):Prop:=∀ (i:Nat) (y:MV),m[i]?=some y->i≠j->mk y<4
theorem Zfu.leaf {h h':Zc} {base:Nat} {v:Value} {y:MV} (c:Zfu h base v y) (a:mk y<4):Zfu h' base v y:=by
  cases y<;>first
    | exact c
    | (simp [mk] at a)
theorem Zul {h h' k:Zc} {R B:Nat} {T:TypeId} {base:Nat} {m:List MV} {j:Nat} {vs:List Value} (c:obj h B=some (.cells vs.toArray T (0,0))) (hlen:vs.length=m.length) (g:∀ (i:Nat) (x:MV),m[i]?=some x->∃ v:Value,vs[i]?=some v/\Zfu h base v x)
    (l:Zn2 m j) {v:Value} (c2:obj k B=some (.cells (vs.set j v).toArray T (0,0))) {x:MV} (o:Zfu k base v x) (n:j<m.length):Zha B T base (m.set j x) k:=by
  refine ⟨vs.set j v,c2,by simp [hlen],fun i y f=>?_⟩
  by_cases d:j=i
  ·subst d
   rw [Ayv n] at f
   cases f
   exact ⟨v,by rw [Ayv (by omega)],o⟩
  ·rw [Azr d] at f
   obtain ⟨w,a,b⟩:=g i y f
   exact ⟨w,by rw [Azr d];exact a,b.leaf (l i y f fun e=>d e.symm)⟩
theorem Zyl {h:Zc} {R B:Nat} {T:TypeId} {base:Nat} {m:List MV} {o:Nat} (er:Er h R 0) (rc:Zha B T base m h) (ne:B≠R) (rb:R<base) (bb:B<base) (p:base<=sz h) (box1:∃ q,obj h o=some (.cells [.pointer (At R)].toArray q (0,0)))
    {l:List BL} (O:m[2]?=some (.ts l)) (r:Zn2 m 2) (hl:l.length<=1000000000000) {z:VT5} {v:JV} (h1:z.1=v.k) (W:z.2.1=Zj v.t) {K:HP}
    (ok:∀ h',v.k=5->Zha B T base (m.set 2 (.ts (l++[v.t]))) h'->Er h' R 0->Upd (Wr R B base) h h'->K h')
    (bad:∀ h',v.k≠5->Zha B T base m h'->Er h' R 26->Upd (Wr R B base) h h'->K h'):YB z (At o) (At B) K h:=by
  unfold YB Zbz
  refine YZ fun X u f z3=>?_
  have i:obj X h.size=some (.cells (Xq z).toArray 33 (0,0)):=u
  obtain ⟨q,Y⟩:=box1
  have y:=er.ext f
  refine Zcp (c:=o) ⟨q,Zn Y f⟩ (rI (Zb i rfl) (rS (Zb i rfl) (rL (s:=z.2.2.1) (Zb i rfl) (rL (s:=z.2.2.2.1) (Zb i rfl) (ZjQ y (fun he n P=>Zm rfl ?_) fun A n Z Q=>Zl rfl ?_)))))
  ·have d:=f.trans P
   have c4:=Zn i P
   have C:v.k=5:=by have:z.1=5:=he;omega
   obtain ⟨vs,D,hlen,g⟩:=rc.ext d
   obtain ⟨w,hw,s,hs,own⟩:=g 2 (.ts l) O
   subst hs
   have E:2<m.length:=(Azl.1 O).1
   have ab:s.len=l.length:=by have:=own.len;simp at this;omega
   refine Zo (rL (s:=s) (Zb D (by simpa using hw)) (rS (Zb c4 rfl) (YZ fun F c5 j z5=>Zjm c5 rfl ?_)))
   rw [show z.2.1=Zj v.t from W]
   have a:Own F base s 1 (l.map sV):=own.congr fun b _ G _=>Zu j G
   have ad:sz h<=sz n:=d.size
   have ae:sz n<=sz F:=j.size
   refine a.app (new:=[sV v.t]) rfl rfl rfl (by omega) (by omega) (show base<=sz F by omega) fun S U o6 ag H ah=>?_
   have I:¬ s.blk=some B:=fun e=>by have:=(a.lt e).1;omega
   have J:¬ s.blk=some R:=fun e=>by have:=(a.lt e).1;omega
   have L:obj U B=some (.cells vs.toArray T (0,0)):=ZG (Zn D j) H I
   have M:2<vs.length:=by omega
   refine Zo (Zk2 L M rfl fun V c7 N z7=>ok V C ?_ ?_ ?_)
   ·refine Zul (h':=V) (R:=R) D hlen g r c7 (x:= .ts (l++[v.t])) ⟨S,rfl,?_⟩ E
    have:Own U base S 1 ((l++[v.t]).map sV):=by simpa using o6
    exact this.congr fun b _ G aj=>Zt N G fun e=>by omega
   ·exact (((er.ext d).ext j).upd H J).upd N fun e=>ne e.symm
   ·refine UN d (UN j ((H.mono fun k _ e=> .inr (.inr (a.lt e).1)).trans (N.mono fun k _ e=> .inr (.inl e))))
  ·have C:v.k≠5:=fun e=>A (show z.1=5 by omega)
   exact bad n C ((rc.ext f).upd Q ne fun b e=> .inl (by rw [e];exact rb)) Z (UN f (Q.mono fun _ _ e=> .inl e))
end Go.Proofs.YtpjbjdheeemdiaaGreatDoor
namespace Go.Js
open Go
theorem Zqq {α β:Type} {f:α->Except Nat β}:∀ {a b:List α},ZkH f (a++b)=match ZkH f a with
    | .error e=> .error e
    | .ok x=>match ZkH f b with
      | .error e=> .error e
      | .ok y=> .ok (x++y)
  | [],b=>by
    simp only [Ayq,ZkH]
    cases ZkH f b<;>rfl
  | c::a,b=>by
    simp only [Ayp,ZkH]
    rw [Zqq]
    cases f c with
    | error e=>rfl
    | ok y=>cases ZkH f a with
      | error e=>rfl
      | ok x=>cases ZkH f b<;>rfl
theorem ZyL {α β:Type} {f:α->Except Nat β} {l:List α} {i:Nat} {x:α} {done:List β} (b:l[i]?=some x) (hd:ZkH f (l.take i) = .ok done) :
    (∀ e,f x = .error e->ZkH f l = .error e)/\∀ y,f x = .ok y->ZkH f (l.take (i+1)) = .ok (done++[y]):=by
  obtain ⟨c,a⟩:=Azl.1 b
  have d:l=l.take i++(x::l.drop (i+1)):=by
    rw [<- a,<- Ayl c,Azi]
  have g:l.take (i+1)=l.take i++[x]:=by rw [Ayu,b];rfl
  refine ⟨fun e he=>?_,fun y h=>?_⟩
  ·rw [d,Zqq,hd]
   simp [ZkH,he]
  ·rw [g,Zqq,hd]
   simp [ZkH,h]
theorem JL.drop_list:∀ (n:Nat) (l:JL),(l.drop n).list=l.list.drop n
  | 0,l=>by simp [JL.drop]
  | n+1,.nil=>rfl
  | n+1,.cons k t ns s r=>by simp only [JL.drop,JL.list,List.drop_succ_cons];exact JL.drop_list n r
theorem JL.list_get {l r s:JL} {n k:Nat} {t:BL} {ns:List BL} (h:l.drop n = .cons k t ns s r):l.list[n]?=some ⟨k,t,ns,s⟩:=by
  have:=JL.drop_list n l
  rw [h] at this
  have a:(l.list.drop n)[0]?=some ⟨k,t,ns,s⟩:=by rw [<- this];rfl
  simpa using a
end Go.Js
namespace Go.Proofs.YtpjbjdheeemdiaaGreatDoor
open Go Go.Fw Go.Js
def ZPR (b:Zcv) (a:Value) (z:VT5) (K:HP) (h:Zc):Prop :=
  (exG a (fun c:Option Addr × Option Addr × Unit=> .func (.func 143) #[] ⟨[.pointer c.1,.pointer c.2.1]⟩) fun c=>b z c.1 c.2.1 K h) \/
  ((exG a (fun c:Option Addr × Option Addr × Unit=> .func (.func 145) #[] ⟨[.pointer c.1,.pointer c.2.1]⟩) fun c=>YB z c.1 c.2.1 K h)\/False)
theorem Zvl {α:Type} {fh:Zcv} {rdE:JV->Except Nat α} {wrap:List α->MV} {Z:Value} {a:Zc} {R B:Nat} {T:TypeId} {base:Nat} {m:List MV} {j o c2:Nat} (er:Er a R 0) (rc:Zha B T base m a) (ne:B≠R) (rb:R<base) (bb:B<base) (aa:base<=sz a)
    (box1:∃ F,obj a o=some (.cells [.pointer (At R)].toArray F (0,0))) (box2:∃ T2,obj a c2=some (.cells [Z].toArray T2 (0,0))) (n1:o<base/\o≠R/\o≠B) (n2:c2<base/\c2≠R/\c2≠B)
    {z:VT5} {v:JV} {S:Nat->Prop} {P:JV->Prop} (hv:ZaS a S z v) (hS:∀ b,S b->b<base/\b≠R/\b≠B) (hP:∀ w,w∈v.sub.list->P w) (hj:m[j]?=some (wrap [])) (av:v.sub.len<=1000000000000)
    (hE:∀ {h:Zc} {l:List α} {z':VT5} {v':JV} {K:HP},Upd (Wr R B base) a h->Zha B T base (m.set j (wrap l)) h->Er h R 0->l.length<=1000000000000->ZaS h S z' v'->P v' ->
      (∀ x h',rdE v' = .ok x->Zha B T base (m.set j (wrap (l++[x]))) h'->Er h' R 0->Upd (Wr R B base) h h'->K h') ->
      (∀ e H h',rdE v' = .error e->e≠0->Zha B T base (m.set j (wrap H)) h'->Er h' R e->Upd (Wr R B base) h h'->K h')->ZPR fh Z z' K h)
    {K:HP} (ok:∀ l h',v.k=6->ZkH rdE v.sub.list = .ok l->Zha B T base (m.set j (wrap l)) h'->Er h' R 0->Upd (Wr R B base) a h'->K h')
    (bad:∀ e H h',(if v.k=6 then ZkH rdE v.sub.list else .error 26) = .error e->Zha B T base (m.set j (wrap H)) h'->Er h' R e->Upd (Wr R B base) a h'->K h') :
    Xx Zw fh YB z (At o) (At c2) K a:=by
  unfold Xx
  have C:m.set j (wrap [])=m:=by
    apply Awy
    intro i
    by_cases I:j=i
    ·subst I;rw [Ayv (Azl.1 hj).1,hj]
    ·rw [Azr I]
  refine YZ fun h3 ad J z3=>?_
  have L:obj h3 a.size=some (.cells (Xq z).toArray 33 (0,0)):=ad
  obtain ⟨F,V⟩:=box1
  obtain ⟨T2,b2⟩:=box2
  obtain ⟨v1,v2,v3,v4,cx,v5,v6,v7⟩:=hv
  have ae:=er.ext J
  refine Zcp (c:=o) ⟨F,Zn V J⟩ (rI (Zb L rfl) (rS (Zb L rfl) (rL (s:=z.2.2.1) (Zb L rfl) (rL (s:=z.2.2.2.1) (Zb L rfl) (ZjQ ae (fun he h4 e4=>Zl rfl ?_) fun af h4 r4 u4=>Zm rfl ?_)))))
  ·have D:=J.trans e4
   have c4:=Zn L e4
   have W:v.k=6:=by have:z.1=6:=he;omega
   have hlen:z.2.2.1.len=v.sub.len:=by have:=v5.len;have:=v7.len;omega
   have big:=v5.big
   have cap:=v5.cap
   refine rL (s:=z.2.2.1) (Zb c4 rfl) (Zv (fun p h'=>∃ i:Nat,p.1=i/\i<=v.sub.len/\∃ l:List α,ZkH rdE (v.sub.list.take i) = .ok l/\l.length<=i/\Zha B T base (m.set j (wrap l)) h'/\Er h' R 0/\Upd (Wr R B base) a h') (fun p _=>(v.sub.len - p.1).toNat)
     ⟨0,rfl,Ayk _,[],rfl,Aqo _,by rw [C];exact rc.ext D,er.ext D,D.upd _⟩ ?_)
   rintro ⟨i0,u⟩ q ⟨i,hi,hle,l,E,aL,M,N,X⟩
   dsimp only at hi ⊢
   subst hi
   have keep:∀ b,S b->b<sz a->obj q b=obj a b:=fun b Y E=>Zt X E fun hw=>by
     obtain ⟨a1,a2,a3⟩:=hS b Y
     rcases hw with e | e | e<;>first
       | exact a2 e
       | exact a3 e
       | omega
   refine Zq (fun aM=>?_) fun aN=>?_
   ·have ag:i<v.sub.len:=by omega
    obtain ⟨k,t,ns,s,r,hd⟩:=JL.drop_cons ag
    have O:Row q z.2.2.1 4 cx:=Ym v5 v6 keep
    have Q:XC q S v.sub cx:=v7.keep keep fun _ h=>h
    obtain ⟨ah,ai⟩:=ZyL (f:=rdE) (JL.list_get hd) E
    refine ZgR O Q hd rfl fun z' aj=>YZ fun G c6 e6 z6=>ZfK c6 (by show 4<=4;omega) rfl fun n c7 u7 z7=>?_
    have aR:sz a<=sz q:=X.size
    have aC:sz q=q.size:=rfl
    have y:Ext q n:=⟨by have:=e6.size;have:sz G=G.size:=rfl;have:sz n=n.size:=rfl;omega,fun b Y=>by rw [show n[b]?=G[b]? from Zt u7 (show b<sz G by have:=e6.size;have:sz G=G.size:=rfl;omega) (by omega)];exact e6.old b Y⟩
    have A:obj n q.size=some (.cells (Xq z').toArray 33 (0,0)):=c7
    have d:Upd (Wr R B base) a n:=X.trans (y.upd _)
    have aS:obj n o=some (.cells [.pointer (At R)].toArray F (0,0)):=ZG V d fun hw=>by rcases hw with e | e | e<;>omega
    have al:obj n c2=some (.cells [Z].toArray T2 (0,0)):=ZG b2 d fun hw=>by rcases hw with e | e | e<;>omega
    have an:ZaS n S z' ⟨k,t,ns,s⟩:=aj.keep (fun b Y E=>Zu y E) fun _ h=>h
    refine Zo (rV (Zb al rfl) (rI (Zb A rfl) (rS (Zb A rfl) (rL (s:=z'.2.2.1) (Zb A rfl) (rL (s:=z'.2.2.2.1) (Zb A rfl) ?_)))))
    refine hE (h:=n) (l:=l) (z':=z') (v':=⟨k,t,ns,s⟩) d (M.ext y) (N.ext y) (by omega) an (hP _ (Axq (JL.list_get hd))) (fun x h8 hx r8 U u8=>?_) fun e H h8 hx h9 r8 U u8=>?_
    ·have g:=d.trans u8
     refine Zcp (c:=o) ⟨F,ZG V g fun hw=>by rcases hw with e | e | e<;>omega⟩ (Zo (Zfy U (Zl rfl ?_)))
     rw [YA (by omega) (by omega)]
     exact ⟨⟨i+1,rfl,by omega,l++[x],ai x hx,by simp;omega,r8,U,g⟩,by omega⟩
    ·have g:=d.trans u8
     refine Zcp (c:=o) ⟨F,ZG V g fun hw=>by rcases hw with e | e | e<;>omega⟩ (Zo (Zfy U (Zm (by simp;omega) (bad e H h8 ?_ r8 U g))))
     rw [if_pos W]
     exact ah e hx
   ·have:i=v.sub.len:=by omega
    subst this
    rw [Awd (by rw [JL.list_len];omega)] at E
    exact ok l q W E M N X
  ·have W:v.k≠6:=fun e=>af (show z.1=6 by omega)
   refine bad 26 [] h4 (if_neg W) ?_ r4 (UN J (u4.mono fun _ _ e=> .inl e))
   rw [C]
   exact (rc.ext J).upd u4 ne fun b e=> .inl (by rw [e];exact rb)
end Go.Proofs.YtpjbjdheeemdiaaGreatDoor
namespace Go.Js
open Go
theorem Zsd {κ:Type} {a:BL}:∀ {F:List (BL × κ)} {i j:Nat} {k:κ},Zbh a F i=some (j,k)->∃ n,j=i+n/\F[n]?=some (a,k)
  | [],_,_,_,h=>by cases h
  | (b,e)::r,i,j,k,h=>by
    simp only [Zbh] at h
    split at h
    ·rename_i c
     cases h
     exact ⟨0,rfl,by simp [c]⟩
    ·obtain ⟨n,f,d⟩:=Zsd h
     exact ⟨n+1,by omega,by simpa using d⟩
theorem Y5 {κ:Type} {a:BL} {F:List (BL × κ)} {j:Nat} {k:κ} (h:Zbh a F 0=some (j,k)):F[j]?=some (a,k):=by
  obtain ⟨n,c,b⟩:=Zsd h
  rw [show j=n by omega]
  exact b
theorem Znf {κ:Type} {a b:BL} {F:List (BL × κ)} {j:Nat} {k d:κ} (h:Zbh a F 0=some (j,k)) (h':Zbh b F 0=some (j,d)):a=b:=by
  have c:=Y5 h
  rw [Y5 h'] at c
  cases c
  rfl
structure OkZ {κ μ:Type} (rd:κ->JV->Except Nat μ) (F:List (BL × κ)) (seen:List BL) (zs:List (BL × JV)) (m0 m:List μ):Prop where
  fresh:∀ p,p∈zs->p.1∉seen
  nodup:(zs.map (·.1)).Nodup
  each:∀ p,p∈zs->∃ j k x,Zbh p.1 F 0=some (j,k)/\rd k p.2 = .ok x/\m[j]?=some x
  len:m.length=m0.length
  rest:∀ j,(∀ p,p∈zs->∀ k,Zbh p.1 F 0≠some (j,k))->m[j]?=m0[j]?
theorem Zi5 {κ μ:Type} {rd:κ->JV->Except Nat μ} {F:List (BL × κ)}:∀ {zs:List (BL × JV)} {seen:List BL} {m0 m:List μ},F.length=m0.length->(Zhh rd F seen zs m0 = .ok m↔OkZ rd F seen zs m0 m)
  | [],seen,m0,m,g=>by
    constructor
    ·intro h
     cases h
     exact ⟨fun p hp=>by simp at hp,by simp,fun p hp=>by simp at hp,rfl,fun _ _=>rfl⟩
    ·intro h
     have:m=m0:=Awy fun j=>h.rest j fun p hp=>by simp at hp
     rw [this]
     rfl
  | (a,v)::r,seen,m0,m,g=>by
    simp only [Zhh]
    constructor
    ·intro h
     split at h
     ·cases h
     ·rename_i j k c
      split at h
      ·cases h
      ·rename_i q
       split at h
       ·cases h
       ·rename_i x n
        have s:j<m0.length:=by rw [<- g];exact (Azl.1 (Y5 c)).1
        have o:=(Zi5 (by simpa using g)).1 h
        have i:∀ p,p∈r->p.1≠a:=fun p hp e=>o.fresh p hp (by simp [e])
        refine ⟨fun p hp=>?_,?_,fun p hp=>?_,by simpa using o.len,fun l d=>?_⟩
        ·rcases Awr.1 hp with e | hp
         ·rw [e];exact q
         ·exact fun e=>o.fresh p hp (by simp [e])
        ·rw [Awo,Azs]
         refine ⟨fun hm=>?_,o.nodup⟩
         obtain ⟨p,hp,e⟩:=Ayw.1 hm
         exact i p hp e
        ·rcases Awr.1 hp with e | hp
         ·subst e
          refine ⟨j,k,x,c,n,?_⟩
          rw [o.rest j fun p hp w b=>i p hp (Znf b c),Ayv s]
         ·exact o.each p hp
        ·have t:j≠l:=fun e=>d (a,v) (by simp) k (by rw [<- e];exact c)
         rw [o.rest l fun p hp=>d p (by simp [hp]),Azr t]
    ·intro h
     obtain ⟨j,k,x,c,n,hm⟩:=h.each (a,v) (by simp)
     dsimp only at c n
     have s:j<m0.length:=by rw [<- g];exact (Azl.1 (Y5 c)).1
     have q:a∉seen:=h.fresh (a,v) (by simp)
     have f:=h.nodup
     rw [Awo,Azs] at f
     rw [c]
     dsimp only
     rw [if_neg q,n]
     dsimp only
     refine (Zi5 (by simpa using g)).2 ⟨fun p hp e=>?_,f.2,fun p hp=>h.each p (by simp [hp]),by simpa using h.len,fun l d=>?_⟩
     ·rcases Axz.1 e with e | e
      ·exact h.fresh p (by simp [hp]) e
      ·exact f.1 (Ayw.2 ⟨p,hp,by simpa using e⟩)
     ·by_cases u:j=l
      ·subst u
       rw [hm,Ayv s]
      ·rw [Azr u]
       refine h.rest l fun p hp w b=>?_
       rcases Awr.1 hp with e | hp
       ·subst e
        rw [c] at b
        cases b
        exact u rfl
       ·exact d p hp w b
def ZBV (v:JV):List (BL × JV):=v.ns.zip v.sub.list
theorem ZeD {κ μ:Type} {rd:κ->JV->Except Nat μ} {F:List (BL × κ)} {m0 m:List μ} {v:JV} (b:F.length=m0.length) :
    Xn rd F m0 v = .ok m↔(v.k=7/\v.ns.length=v.sub.len)/\OkZ rd F [] (ZBV v) m0 m:=by
  unfold Xn
  constructor
  ·intro h
   split at h
   ·rename_i a;exact ⟨a,(Zi5 b).1 h⟩
   ·cases h
  ·rintro ⟨a,h⟩
   rw [if_pos a]
   exact (Zi5 b).2 h
def ZtA (a:BL):List (BL × JV)->Option JV
  | []=>none
  | (b,v)::r=>if b=a then some v else ZtA a r
theorem Znj {a:BL}:∀ {zs:List (BL × JV)} {v:JV},ZtA a zs=some v->(a,v)∈zs
  | [],_,h=>by cases h
  | (b,w)::r,v,h=>by
    simp only [ZtA] at h
    split at h
    ·rename_i e;cases h;simp [e]
    ·exact Aws _ (Znj h)
theorem Zpc {a:BL}:∀ {zs:List (BL × JV)},ZtA a zs=none->∀ p,p∈zs->p.1≠a
  | [],_,p,hp=>by simp at hp
  | (b,w)::r,h,p,hp=>by
    simp only [ZtA] at h
    split at h
    ·cases h
    ·rename_i e
     rcases Awr.1 hp with c | hp
     ·rw [c];exact e
     ·exact Zpc h p hp
theorem Zs7 {κ μ:Type} {rd:κ->JV->Except Nat μ} {F:List (BL × κ)} {m0 m:List μ} {v:JV} (f:F.length=m0.length) (h:Xn rd F m0 v = .ok m) {a:BL} {j:Nat} {k:κ} (c:Zbh a F 0=some (j,k)) :
    match ZtA a (ZBV v) with
    | some w=>∃ x,rd k w = .ok x/\m[j]?=some x
    | none=>m[j]?=m0[j]?:=by
  obtain ⟨_,o⟩:=(ZeD f).1 h
  cases d:ZtA a (ZBV v) with
  | some w =>
    obtain ⟨n,g,x,e,i,l⟩:=o.each _ (Znj d)
    rw [c] at e
    cases e
    exact ⟨x,i,l⟩
  | none=>exact o.rest j fun p hp g b=>Zpc d p hp (Znf b c)
theorem OkZ.perm {κ μ:Type} {rd:κ->JV->Except Nat μ} {F:List (BL × κ)} {zs zs':List (BL × JV)} {m0 m:List μ} (o:OkZ rd F [] zs m0 m) (hp:(zs'.map (·.1)).Perm (zs.map (·.1))) (c:∀ p,p∈zs'->∃ w,(p.1,w)∈zs/\∀ j k x,Zbh p.1 F 0=some (j,k)->rd k w = .ok x->rd k p.2 = .ok x):OkZ rd F [] zs' m0 m:=by
  refine ⟨fun p _=>by simp,hp.symm.nodup o.nodup,fun p a=>?_,o.len,fun j d=>o.rest j fun p a k f=>?_⟩
  ·obtain ⟨w,hw,g⟩:=c p a
   obtain ⟨j,k,x,b,h,i⟩:=o.each _ hw
   exact ⟨j,k,x,b,g j k x b h,i⟩
  ·have:p.1∈zs'.map (·.1):=hp.mem_iff.2 (Ayw.2 ⟨p,a,rfl⟩)
   obtain ⟨q,l,e⟩:=Ayw.1 this
   exact d q l k (by rw [e];exact f)
end Go.Js
namespace Go.Proofs.YtpjbjdheeemdiaaGreatDoor
open Go Go.Fw Go.Js
def ZPQ (b:Zcv) (a:Value) (z:VT5) (K:HP) (h:Zc):Prop :=
  (exG a (fun c:Option Addr × Option Addr × Unit=> .func (.func 211) #[] ⟨[.pointer c.1,.pointer c.2.1]⟩) fun c=>YV z c.1 c.2.1 K h) \/
  ((exG a (fun c:Option Addr × Option Addr × Unit=> .func (.func 212) #[] ⟨[.pointer c.1,.pointer c.2.1]⟩) fun c=>Y0 z c.1 c.2.1 K h) \/
  ((exG a (fun c:Option Addr × Option Addr × Unit=> .func (.func 213) #[] ⟨[.pointer c.1,.pointer c.2.1]⟩) fun c=>YE z c.1 c.2.1 K h) \/
  ((exG a (fun c:Option Addr × Option Addr × Option Addr × Unit=> .func (.func 214) #[] ⟨[.pointer c.1,.pointer c.2.1,.pointer c.2.2.1]⟩) fun c=>YU z c.1 c.2.1 c.2.2.1 K h) \/
  ((exG a (fun c:Option Addr × Option Addr × Unit=> .func (.func 216) #[] ⟨[.pointer c.1,.pointer c.2.1]⟩) fun c=>b z c.1 c.2.1 K h) \/
  ((exG a (fun c:Option Addr × Option Addr × Option Addr × Unit=> .func (.func 57) #[] ⟨[.pointer c.1,.pointer c.2.1,.pointer c.2.2.1]⟩) fun c=>YW z c.1 c.2.1 c.2.2.1 K h)\/False)))))
theorem Zyd {κ μ:Type} {rd:κ->JV->Except Nat μ} {F:List (BL × κ)} {ns:List BL} {l:List JV} (hlen:ns.length=l.length) {i:Nat} {a:BL} {v:JV} (b:ns[i]?=some a) (c:l[i]?=some v) (m:List μ) :
    Zhh rd F (ns.take i) ((ns.zip l).drop i) m=match Zbh a F 0 with
     | none=> .error 26
     | some (j,k)=>if a∈ns.take i then .error 26 else match rd k v with
       | .error e=> .error e
       | .ok x=>Zhh rd F (ns.take (i+1)) ((ns.zip l).drop (i+1)) (m.set j x):=by
  have h:=(Azl.1 b).1
  have d:(ns.zip l)[i]?=some (a,v):=by rw [List.getElem?_zip_eq_some];exact ⟨b,c⟩
  have hd:(ns.zip l).drop i=(a,v)::(ns.zip l).drop (i+1):=by
    obtain ⟨f,g⟩:=Azl.1 d
    rw [Ayl f,g]
  have ht:ns.take (i+1)=ns.take i++[a]:=by rw [Ayu,b];rfl
  rw [hd,ht]
  rfl
theorem ZoV {κ μ:Type} {rd:κ->JV->Except Nat μ} {F:List (BL × κ)} {fa:Zcv} {tgt:List μ->Zc->Prop} {W:Nat->Prop} {c:Zc} {R X n:Nat} {f:BL->Option Value} {cls:Nat->Value} {m0:List μ} (er:Er c R 0) (al:tgt m0 c) (D:W R) (an:¬ W c.size)
    (H:Zq0 c X f n) (hf:∀ a,f a=(Zbh a F 0).map fun p=>cls p.1) (ao:¬ W X) (aq:∀ a j k,Zbh a F 0=some (j,k)->∃ g x y,cls j = .func g x y) (B:∀ {m:List μ} {h h':Zc},tgt m h->sz c<=sz h->Upd (· = R) h h'->tgt m h')
    {z:VT5} {v:JV} {S:Nat->Prop} {P:JV->Prop} (hv:ZaS c S z v) (hS:∀ b,S b->b<sz c/\¬ W b) (hP:∀ w,w∈v.sub.list->P w)
    (hE:∀ {h:Zc} {m:List μ} {j:Nat} {k:κ} {a:BL} {z':VT5} {v':JV} {K:HP},Upd W c h->sz c<sz h->tgt m h->Er h R 0->Zbh a F 0=some (j,k)->ZaS h S z' v'->P v'->m[j]?=m0[j]? ->
      (∀ x h',rd k v' = .ok x->tgt (m.set j x) h'->Er h' R 0->Upd W h h'->K h')->(∀ e m' h',rd k v' = .error e->e≠0->tgt m' h'->Er h' R e->Upd W h h'->K h')->ZPQ fa (cls j) z' K h)
    {K:HP} (ok:∀ m h',Xn rd F m0 v = .ok m->tgt m h'->Er h' R 0->Upd W c h'->K h') (bad:∀ e m h',Xn rd F m0 v = .error e->tgt m h'->Er h' R e->Upd W c h'->K h') :
    Zah Yi Z1 YV Y0 YE YU fa YW (At R) z (some X) K c:=by
  unfold Zah
  refine YZ fun L au U z3=>?_
  have Y:obj L c.size=some (.cells (Xq z).toArray 33 (0,0)):=au
  obtain ⟨v1,v2,v3,v4,cx,v5,v6,v7⟩:=hv
  have M:=er.ext U
  have I:sz c<=sz L:=U.size
  have N:tgt m0 L:=B al (Aqo _) (U.upd _)
  have Z:=Zb3 v3
  have aa:z.2.2.1.len=v.sub.len:=by have:=v5.len;have:=v7.len;omega
  refine rI (Zb Y rfl) (Zar (fun O=>Zo (ZiO M rfl fun h4 r4 u4 _=>?_)) fun he=>?_)
  ·have hk:v.k≠7:=fun e=>O (show z.1=7 by omega)
   exact bad 26 m0 h4 (by unfold Xn;rw [if_neg fun h=>hk h.1]) (B N I u4) r4 (UN U (u4.mono fun _ _ e=>e▸D))
  have hk:v.k=7:=by have:z.1=7:=he;omega
  refine rL (s:=z.2.2.2.1) (Zb Y rfl) (rL (s:=z.2.2.1) (Zb Y rfl) (Zar (fun O=>Zo (ZiO M rfl fun h4 r4 u4 _=>?_)) fun aT=>?_))
  ·have V:¬ v.ns.length=v.sub.len:=fun e=>O (by rw [Z,aa,e])
   exact bad 26 m0 h4 (by unfold Xn;rw [if_neg fun h=>V h.2]) (B N I u4) r4 (UN U (u4.mono fun _ _ e=>e▸D))
  have V:v.ns.length=v.sub.len:=by omega
  have ad:Xn rd F m0 v=Zhh rd F [] (v.ns.zip v.sub.list) m0:=by unfold Xn;rw [if_pos ⟨hk,V⟩]
  have ay:v.ns.length=v.sub.list.length:=by rw [JL.list_len];exact V
  have big:=v3.big
  have cap:=v3.cap
  refine rL (s:=z.2.2.2.1) (Zb Y rfl) (Zv (fun p h'=>∃ (i:Nat) (m:List μ),p.1=i/\i<=v.ns.length/\Xn rd F m0 v=Zhh rd F (v.ns.take i) ((v.ns.zip v.sub.list).drop i) m/\tgt m h'/\Er h' R 0/\Upd W L h'/\∀ j,(∀ b,b∈v.ns.take i->∀ k,Zbh b F 0≠some (j,k))->m[j]?=m0[j]?) (fun p _=>(v.ns.length - p.1).toNat)
    ⟨0,m0,rfl,Ayk _,by simpa using ad,N,M,Upd.refl _ _,fun _ _=>rfl⟩ ?_)
  rintro ⟨i0,u⟩ q ⟨i,m,hi,hle,A,E,G,u5,C⟩
  dsimp only at hi ⊢
  subst hi
  have d:Upd W c q:=UN U u5
  have aU:sz L<=sz q:=u5.size
  have keep:∀ b,S b->b<sz c->obj q b=obj c b:=fun b hb V=>Zt d V (hS b hb).2
  refine Zq (fun aV=>?_) fun aW=>?_
  ·have az:i<v.ns.length:=by omega
   obtain ⟨a,ha⟩:∃ a,v.ns[i]?=some a:=⟨v.ns[i],Ayb az⟩
   obtain ⟨k,t,ns',s,r,hd⟩:=JL.drop_cons (l:=v.sub) (n:=i) (by omega)
   have ag:=JL.list_get hd
   have J:Row q z.2.2.2.1 1 (v.ns.map sV):=Ym v3 v4 keep
   have ah:Row q z.2.2.1 4 cx:=Ym v5 v6 keep
   have ai:XC q S v.sub cx:=v7.keep keep fun _ h=>h
   have step:=Zyd (rd:=rd) (F:=F) ay ha ag m
   rw [step] at A
   refine ZgQ J ha rfl (Za ?_)
   refine (H.congr (show q[X]?=c[X]? from Zt d H.lt ao)).get a ?_
   rw [hf a]
   cases o:Zbh a F 0 with
   | none =>
     rw [o] at A
     exact .inl ⟨rfl,Zm rfl (Zo (ZiO G rfl fun h6 r6 u6 _=>bad 26 m h6 A (B E (by omega) u6) r6 (d.trans (u6.mono fun _ _ e=>e▸D))))⟩
   | some p =>
     obtain ⟨j,k2⟩:=p
     obtain ⟨g,x,y,hc⟩:=aq a j k2 o
     rw [o] at A
     simp only at A
     have c5:=ZG Y u5 an
     refine .inr ⟨g,x,y,hc,Zl rfl (rL (s:=z.2.2.2.1) (Zb c5 rfl) (J.slc (a:=0) (b:=i) (m:=z.2.2.2.1.cap) rfl rfl rfl (by omega) (by omega) (by omega) (Aqo _) fun s' aE _ _ _=>?_))⟩
     have aF:Row q s' 1 ((v.ns.take i).map sV):=by simpa [List.map_take] using aE
     refine Znv aF ?_
     by_cases hm:a∈v.ns.take i
     ·rw [decide_eq_true hm]
      rw [if_pos hm] at A
      exact Zm rfl (Zo (ZiO G rfl fun h6 r6 u6 _=>bad 26 m h6 A (B E (by omega) u6) r6 (d.trans (u6.mono fun _ _ e=>e▸D))))
     ·rw [decide_eq_false hm]
      rw [if_neg hm] at A
      refine Zl rfl (rL (s:=z.2.2.1) (Zb c5 rfl) (ZgR ah ai hd rfl fun z' aG=>?_))
      refine hE (h:=q) (m:=m) (j:=j) (k:=k2) (a:=a) (z':=z') (v':=⟨k,t,ns',s⟩) d (by have:=u5.size;have:sz L=L.size:=rfl;have:sz q=q.size:=rfl;have:sz c=c.size:=rfl;omega) E G o aG (hP _ (Axq ag)) (C j fun b hb k' aH=>hm (Znf aH o▸hb)) (fun x h8 hx Q e8 u8=>?_) fun e m' h8 hx h9 Q e8 u8=>?_
      ·refine Zo (Zfy e8 (Zl rfl ?_))
       rw [YA (by omega) (by omega)]
       refine ⟨⟨i+1,m.set j x,rfl,by omega,?_,Q,e8,u5.trans u8,fun j' T=>?_⟩,by omega⟩
       ·rw [A,hx]
       ·have ht:v.ns.take (i+1)=v.ns.take i++[a]:=by rw [Ayu,ha];rfl
        rw [ht] at T
        rw [Azr fun e=>T a (by simp) k2 (by rw [o,e])]
        exact C j' fun b hb=>T b (by simp [hb])
      ·refine Zo (Zfy e8 (Zm (by simp;omega) (bad e m' h8 ?_ Q e8 (d.trans u8))))
       rw [A,hx]
  ·have:i=v.ns.length:=by omega
   subst this
   rw [Azh (by rw [List.length_zip];exact Nat.min_le_left _ _)] at A
   exact ok m q A E G d
theorem ZrU {m:List MV} {j:Nat} (h:Zn2 m j) (x:MV):Zn2 (m.set j x) j:=fun i y b a=>h i y (by rwa [Azr (fun e=>a e.symm)] at b) a
theorem ZAD {E:Zcv} {c:Zc} {R B:Nat} {T:TypeId} {base:Nat} {m:List MV} {g c2 c3:Nat} (er:Er c R 0) (rc:Zha B T base m c) (ne:B≠R) (rb:R<base) (bb:B<base) (f:base<=sz c)
    (box1:∃ q,obj c g=some (.cells [.pointer (At R)].toArray q (0,0))) (i:∃ q,obj c c3=some (.cells [.pointer (At R)].toArray q (0,0)))
    (box2:∃ F,obj c c2=some (.cells [.func (.func 145) #[] #[.pointer (At c3),.pointer (At B)]].toArray F (0,0))) (G:g<base/\g≠R/\g≠B) (H:c2<base/\c2≠R/\c2≠B) (n3:c3<base/\c3≠R/\c3≠B)
    {z:VT5} {v:JV} {S:Nat->Prop} (I:ZaS c S z v) (J:∀ b,S b->b<base/\b≠R/\b≠B) (s:m[2]?=some (.ts [])) (w:Zn2 m 2) (j:v.sub.len<=1000000000000)
    {K:HP} (ok:∀ x h',Zdn .texts v = .ok x->Zha B T base (m.set 2 x) h'->Er h' R 0->Upd (Wr R B base) c h'->K h')
    (bad:∀ e C h',Zdn .texts v = .error e->C.map mk=m.map mk->Zha B T base C h'->Er h' R e->Upd (Wr R B base) c h'->K h') :
    Xx Zw E YB z (At g) (At c2) K c:=by
  obtain ⟨L,M⟩:=i
  refine Zvl (rdE:=Zrz) (wrap:=MV.ts) (P:=fun _=>True) er rc ne rb bb f box1 box2 G H I J (fun _ _=>trivial) s j (fun {h l z' v' Q} u r e N D _ y n=>?_) (fun l h' d hm r e u=>ok (.ts l) h' (by simp [Zdn,d,hm]) r e u) fun e O h' a r o u=>bad e (m.set 2 (.ts O)) h' ?_ (ZuA s rfl) r o u
  ·refine .inr (.inl ⟨(At c3,At B,()),rfl,?_⟩)
   have hu:sz c<=sz h:=u.size
   refine Zyl (v:=v') e r ne rb bb (by omega) ⟨L,ZG M u fun hw=>by rcases hw with e | e | e<;>omega⟩ (l:=l) (by rw [Ayv (Azl.1 s).1]) (ZrU w _) N D.1 D.2.1 (fun h' d p o A=>?_) fun h' d p o A=>?_
   ·rw [List.set_set] at p
    exact y v'.t h' (by simp [Zrz,d]) p o A
   ·exact n 26 l h' (by simp [Zrz,d]) (by omega) p o A
  ·by_cases d:v.k=6
   ·rw [if_pos d] at a
    simp [Zdn,d,a]
   ·rw [if_neg d] at a
    cases a
    simp [Zdn,d]
def ZHD (h:Zc) (S:Nat->Prop) (v:Value) (l:JL):Prop:=∃ x a,v=slV x/\Row h x 4 a/\inS S x/\XC h S l a
def ZiS (B:Nat) (T:TypeId) (S:Nat->Prop) (ls:List JL) (h:Zc):Prop :=
  ∃ vs:List Value,obj h B=some (.cells vs.toArray T (0,0))/\vs.length=ls.length/\∀ (i:Nat) (l:JL),ls[i]?=some l->∃ v:Value,vs[i]?=some v/\ZHD h S v l
theorem ZHD.keep {h h':Zc} {S:Nat->Prop} {v:Value} {l:JL} (r:ZHD h S v l) (he:∀ b,S b->b<sz h->obj h' b=obj h b):ZHD h' S v l:=by
  obtain ⟨x,d,e,a,b,c⟩:=r
  exact ⟨x,d,e,Ym a b he,b,c.keep he fun _ h=>h⟩
theorem ZiS.upd {W:Nat->Prop} {B:Nat} {T:TypeId} {S:Nat->Prop} {ls:List JL} {h h':Zc} (r:ZiS B T S ls h) (u:Upd W h h') (a:¬ W B) (d:∀ b,S b->¬ W b):ZiS B T S ls h':=by
  obtain ⟨vs,c,l,g⟩:=r
  exact ⟨vs,ZG c u a,l,fun i x e=>let ⟨v,f,j⟩:=g i x e;⟨v,f,j.keep fun b k m=>Zt u m (d b k)⟩⟩
theorem ZEy {h:Zc} {R B:Nat} {T:TypeId} {S:Nat->Prop} {ls:List JL} {j u c3:Nat} (er:Er h R 0) (rt:ZiS B T S ls h) (ne:B≠R) (Q:ls.length=5) (hj:j<5) (m:∀ b,S b->b≠R/\b≠B)
    (box1:∃ y,obj h u=some (.cells [.pointer (At R)].toArray y (0,0))) (n:∃ J,obj h c3=some (.cells [.int .i64 (j:Int)].toArray J (0,0))) {z:VT5} {v:JV} (L:ZaS h S z v) {K:HP}
    (ok:∀ x h',ZhI () v = .ok x->ZiS B T S (ls.set j x) h'->Er h' R 0->Upd (fun b=>b=R\/b=B) h h'->K h')
    (bad:∀ e h',ZhI () v = .error e->e≠0->ZiS B T S ls h'->Er h' R e->Upd (fun b=>b=R\/b=B) h h'->K h'):YW z (At u) (At B) (At c3) K h:=by
  unfold YW ZbC
  refine YZ fun M A o z3=>?_
  have p:obj M h.size=some (.cells (Xq z).toArray 33 (0,0)):=A
  obtain ⟨y,U⟩:=box1
  obtain ⟨J,V⟩:=n
  have C:=er.ext o
  have W:=L
  obtain ⟨v1,v2,v3,v4,X,v5,v6,Y⟩:=L
  have D:ZiS B T S ls M:=rt.upd (o.upd fun _=>False) (fun h=>h) fun _ _ h=>h
  refine Zcp (c:=u) ⟨y,Zn U o⟩ (rI (Zb p rfl) (rS (Zb p rfl) (rL (s:=z.2.2.1) (Zb p rfl) (rL (s:=z.2.2.2.1) (Zb p rfl) (ZjQ C (fun he q N=>Zm rfl ?_) fun E q Z O=>Zl rfl ?_)))))
  ·have d:=o.trans N
   have c4:=Zn p N
   have F:v.k=6:=by have:z.1=6:=he;omega
   obtain ⟨vs,cB,hlen,g⟩:=rt.upd (d.upd fun _=>False) (fun h=>h) fun _ _ h=>h
   refine Zo (rI (Zb (Zn V d) rfl) (rL (s:=z.2.2.1) (Zb c4 rfl) (Zo ⟨by omega,by omega,?_⟩)))
   show st q B (0+(j:Int).toNat*1) _ _
   rw [show 0+(j:Int).toNat*1=j by omega]
   refine Zk2 cB (by omega) rfl fun P c7 G z7=>ok v.sub P (by simp [ZhI,F]) ⟨_,c7,by simp [hlen],fun i l t=>?_⟩ ((er.ext d).upd G fun e=>ne e.symm) (UN d (G.mono fun _ _ e=> .inr e))
   have H:∀ b,S b->b<sz q->obj P b=obj q b:=fun b I r=>Zt G r (m b I).2
   by_cases f:j=i
   ·subst f
    rw [Ayv (by omega)] at t
    cases t
    refine ⟨slV z.2.2.1,by rw [Ayv (by omega)];rfl,z.2.2.1,X,rfl,?_,v6,?_⟩
    ·exact Ym (Ym v5 v6 fun b _ r=>Zu d r) v6 H
    ·exact (Y.keep (S':=S) (fun b _ r=>Zu d r) fun _ h=>h).keep H fun _ h=>h
   ·rw [Azr f] at t
    obtain ⟨w,a,b⟩:=g i l t
    exact ⟨w,by rw [Azr f];exact a,b.keep H⟩
  ·have F:v.k≠6:=fun e=>E (show z.1=6 by omega)
   exact bad 26 q (by simp [ZhI,F]) (by omega) (D.upd O ne fun b I=>(m b I).1) Z (UN o (O.mono fun _ _ e=> .inl e))
def Box (h:Zc) (c:Nat) (v:Value):Prop:=∃ T,obj h c=some (.cells [v].toArray T (0,0))
theorem Box.ext {h h':Zc} {c:Nat} {v:Value} (b:Box h c v) (u:Ext h h'):Box h' c v:=let ⟨T,b⟩:=b;⟨T,Zn b u⟩
theorem ZEK {h:Zc} {r e:Option Addr} {K:(Option Addr × Option Addr × Unit)->HP} {g i:TypeId} (j:∀ a c2 h',Ext h h'->sz h<=a->sz h<=c2->a<sz h'->c2<sz h'->Box h' a (.pointer r)->Box h' c2 (.pointer e)->K (At a,At c2,()) h') :
    newC h [.pointer r] g fun b c=>newC c [.pointer e] i fun k l=>K (some ⟨b,0,none⟩,some ⟨k,0,none⟩,()) l:=by
  refine YZ fun c a m n=>YZ fun d c2 f z2=>?_
  have s1:sz h=h.size:=rfl
  have s2:sz c=c.size:=rfl
  have o:sz d=d.size:=rfl
  exact j h.size c.size d (m.trans f) (by omega) (by omega) (by omega) (by omega) ⟨_,Zn a f⟩ ⟨_,c2⟩
theorem Zf3 {h:Zc} {r b:Option Addr} {K:(Option Addr × Option Addr × Unit)->HP} (c:∀ a c2 h',Ext h h'->sz h<=a->sz h<=c2->a<sz h'->c2<sz h'->Box h' a (.pointer r)->Box h' c2 (.pointer b)->K (At a,At c2,()) h'):Yc r b K h:=ZEK c
theorem Y6 {h:Zc} {r b:Option Addr} {K:(Option Addr × Option Addr × Unit)->HP} (c:∀ a c2 h',Ext h h'->sz h<=a->sz h<=c2->a<sz h'->c2<sz h'->Box h' a (.pointer r)->Box h' c2 (.pointer b)->K (At a,At c2,()) h'):ZT r b K h:=ZEK c
theorem ZlT {h:Zc} {r b:Option Addr} {K:(Option Addr × Option Addr × Unit)->HP} (c:∀ a c2 h',Ext h h'->sz h<=a->sz h<=c2->a<sz h'->c2<sz h'->Box h' a (.pointer r)->Box h' c2 (.pointer b)->K (At a,At c2,()) h'):XG r b K h:=ZEK c
def YG (R B:Nat) (W:Nat->Prop) (k:FK) (j:Nat) (v:Value) (h:Zc):Prop :=
  match k with
  | .text=>∃ a c2,v = .func (.func 211) #[] #[.pointer (At a),.pointer (At c2)]/\(W a/\W c2)/\Box h a (.pointer (At R))/\Box h c2 (.pointer (some ⟨B,j,none⟩))
  | .num=>∃ a c2,v = .func (.func 213) #[] #[.pointer (At a),.pointer (At c2)]/\(W a/\W c2)/\Box h a (.pointer (At R))/\Box h c2 (.pointer (some ⟨B,j,none⟩))
  | .yes=>∃ a c2,v = .func (.func 212) #[] #[.pointer (At a),.pointer (At c2)]/\(W a/\W c2)/\Box h a (.pointer (At R))/\Box h c2 (.pointer (some ⟨B,j,none⟩))
  | .word ws=>∃ a c2 c3 x F,v = .func (.func 214) #[] #[.pointer (At a),.pointer (At c2),.pointer (At c3)]/\(W a/\W c2/\W c3)/\Box h a (.pointer (At R))/\Box h c2 (slV x) /\
      (Row h x 1 (ws.map sV)/\inS W x)/\ZCq F j/\Box h c3 (.func (.func F) #[] #[.pointer (At B)])
  | .texts=>∃ a c2 c3,v = .func (.func 216) #[] #[.pointer (At a),.pointer (At c2)]/\(W a/\W c2/\W c3)/\Box h a (.pointer (At R))/\Box h c2 (.func (.func 145) #[] #[.pointer (At c3),.pointer (At B)])/\Box h c3 (.pointer (At R))
  | .items=>∃ a c2 c3,v = .func (.func 216) #[] #[.pointer (At a),.pointer (At c2)]/\(W a/\W c2/\W c3)/\Box h a (.pointer (At R))/\Box h c2 (.func (.func 143) #[] #[.pointer (At c3),.pointer (At B)])/\Box h c3 (.pointer (At R))
theorem Box.lt {h:Zc} {c:Nat} {v:Value} (b:Box h c v):c<sz h:=let ⟨_,b⟩:=b;ZaK b
theorem Box.upd {U:Nat->Prop} {h h':Zc} {c:Nat} {v:Value} (b:Box h c v) (u:Upd U h h') (a:¬ U c):Box h' c v:=let ⟨T,b⟩:=b;⟨T,ZG b u a⟩
theorem YG.upd {R B:Nat} {W U:Nat->Prop} {k:FK} {j:Nat} {v:Value} {h h':Zc} (g:YG R B W k j v h) (u:Upd U h h') (m:∀ b,b<sz h->W b->¬ U b):YG R B W k j v h':=by
  have i:∀ {c:Nat} {v:Value},Box h c v->W c->Box h' c v:=fun b w=>b.upd u (m _ b.lt w)
  cases k with
  | text=>obtain ⟨l,c2,e,w,a,b⟩:=g;exact ⟨l,c2,e,w,i a w.1,i b w.2⟩
  | num=>obtain ⟨l,c2,e,w,a,b⟩:=g;exact ⟨l,c2,e,w,i a w.1,i b w.2⟩
  | yes=>obtain ⟨l,c2,e,w,a,b⟩:=g;exact ⟨l,c2,e,w,i a w.1,i b w.2⟩
  | word ws=>obtain ⟨l,c2,c3,x,F,e,w,a,b,c,d,f⟩:=g;exact ⟨l,c2,c3,x,F,e,w,i a w.1,i b w.2.1,⟨Ym c.1 c.2 fun b o n=>Zt u n (m b n o),c.2⟩,d,i f w.2.2⟩
  | texts=>obtain ⟨l,c2,c3,e,w,a,b,c⟩:=g;exact ⟨l,c2,c3,e,w,i a w.1,i b w.2.1,i c w.2.2⟩
  | items=>obtain ⟨l,c2,c3,e,w,a,b,c⟩:=g;exact ⟨l,c2,c3,e,w,i a w.1,i b w.2.1,i c w.2.2⟩
theorem YG.ext {R B:Nat} {W:Nat->Prop} {k:FK} {j:Nat} {v:Value} {h h':Zc} (g:YG R B W k j v h) (u:Ext h h'):YG R B W k j v h':=g.upd (u.upd fun _=>False) fun _ _ _ h=>h
theorem YG.fn {R B:Nat} {W:Nat->Prop} {k:FK} {j:Nat} {v:Value} {h:Zc} (g:YG R B W k j v h):∃ f x y,v = .func f x y:=by
  cases k with
  | text=>obtain ⟨a,c2,e,_⟩:=g;exact ⟨_,_,_,e⟩
  | num=>obtain ⟨a,c2,e,_⟩:=g;exact ⟨_,_,_,e⟩
  | yes=>obtain ⟨a,c2,e,_⟩:=g;exact ⟨_,_,_,e⟩
  | word ws=>obtain ⟨a,c2,c3,x,F,e,_⟩:=g;exact ⟨_,_,_,e⟩
  | texts=>obtain ⟨a,c2,c3,e,_⟩:=g;exact ⟨_,_,_,e⟩
  | items=>obtain ⟨a,c2,c3,e,_⟩:=g;exact ⟨_,_,_,e⟩
def ZFv (h h':Zc):Prop:=∃ a f n,Zq0 h a f n/\Upd (· = a) h h'
theorem ZjC {d:Nat->Bool} {k i:Nat} (h:i≠k):XU d k i=d i:=by
  unfold XU
  rw [show Nat.beq i k=false from Bool.eq_false_iff.2 fun e=>h (Awg e)]
  rfl
theorem Zx2 (d:Nat->Bool) (k:Nat):XU d k k=true:=by
  unfold XU
  rw [show Nat.beq k k=true from Axx k]
  rfl
def Lit {κ:Type} (G:κ->Nat->Value->Zc->Prop) (F:List (BL × κ)) (mi:Nat) (ins:Nat->Nat) (h0:Zc) (d:Nat->Bool) (sm:Option Nat) (h:Zc):Prop :=
  Ext h0 h/\(d mi=false->∀ j,j<F.length->d (ins j)=false)/\(d mi=true->∃ b f n,sm=some b/\sz h0<=b/\Zq0 h b f n/\(∀ a,Zbh a F 0=none->f a=none) /\
    ∀ a j k,Zbh a F 0=some (j,k)->(d (ins j)=false->f a=none)/\(d (ins j)=true->∃ v,f a=some v/\G k j v h))
section
variable {κ:Type} {G:κ->Nat->Value->Zc->Prop} {F:List (BL × κ)} {mi:Nat} {ins:Nat->Nat} {h0:Zc}
theorem Lit.start (h0:Zc) (sm:Option Nat):Lit G F mi ins h0 (fun _=>false) sm h0 :=
  ⟨Ext.refl _,fun _ _ _=>rfl,fun e=>by cases e⟩
theorem Lit.ext {d:Nat->Bool} {sm:Option Nat} {h:Zc} (l:Lit G F mi ins h0 d sm h):Ext h0 h:=l.1
theorem Zsc {a:BL} {j:Nat} {k:κ} (h:Zbh a F 0=some (j,k)):j<F.length:=(Azl.1 (Y5 h)).1
theorem Lit.make {d:Nat->Bool} {sm:Option Nat} {h:Zc} (l:Lit G F mi ins h0 d sm h) (i:d mi=false) (hm:∀ j,j<F.length->ins j≠mi) {K:Nat->Zc->Prop} (m:∀ b h',Lit G F mi ins h0 (XU d mi) (some b) h'->Ext h h'->K b h'):Zjn h K:=by
  obtain ⟨c,n,p⟩:=l
  refine Zq0.new fun o m1 f q=>m _ o ⟨c.trans f,fun e=>?_,fun _=>⟨h.size,_,_,rfl,c.size,m1,fun _ _=>rfl,fun a j k g=>⟨fun _=>rfl,fun e=>?_⟩⟩⟩ f
  ·rw [Zx2] at e
   cases e
  ·rw [ZjC (hm j (Zsc g)),n i j (Zsc g)] at e
   cases e
theorem Lit.call {d:Nat->Bool} {sm:Option Nat} {h h':Zc} {c:Nat} (l:Lit G F mi ins h0 d sm h) (u:Ext h h') (q:∀ {k j v},G k j v h->G k j v h') (b:mi≠c) (i:∀ j,j<F.length->ins j≠c):Lit G F mi ins h0 (XU d c) sm h':=by
  obtain ⟨r,s,t⟩:=l
  refine ⟨r.trans u,fun e j m=>?_,fun e=>?_⟩
  ·rw [ZjC b] at e
   rw [ZjC (i j m)]
   exact s e j m
  ·rw [ZjC b] at e
   obtain ⟨w,f,n,x,y,o,z,p⟩:=t e
   refine ⟨w,f,n,x,y,o.congr (u.old _ o.lt),z,fun a j k g=>?_⟩
   rw [ZjC (i j (Zsc g))]
   exact ⟨(p a j k g).1,fun e=>let ⟨v,A,a2⟩:=(p a j k g).2 e;⟨v,A,q a2⟩⟩
theorem Lit.put {d:Nat->Bool} {sm:Option Nat} {h:Zc} (l:Lit G F mi ins h0 d sm h) (em:d mi=true) {j:Nat} {a:BL} {k:κ} {v:Value} (s:Zbh a F 0=some (j,k)) (p:∀ i,i<F.length->ins i=ins j->i=j) {c:Nat} (J:c=ins j) (t:mi≠c) (g:G k j v h)
    (L:∀ {h' k j v},ZFv h h'->G k j v h->G k j v h') {K:HP} (x:∀ h',Lit G F mi ins h0 (XU d c) sm h'->Ext h0 h'->ZFv h h'->K h'):Xu .string h sm (sV a) v K:=by
  subst J
  obtain ⟨M,R,N⟩:=l
  obtain ⟨O,f,n,rfl,C,D,P,E⟩:=N em
  refine D.put a v fun h' Q u z=>?_
  have H:Ext h0 h':=M.then u fun k x=>by subst x;exact C
  have I:ZFv h h':=⟨_,_,_,D,u⟩
  have r:∀ {k j v},G k j v h->G k j v h':=fun g=>L I g
  refine x h' ⟨H,fun e=>?_,fun _=>⟨O,_,_,rfl,C,Q,fun b y=>?_,fun b i q m=>?_⟩⟩ H I
  ·rw [ZjC t,em] at e
   cases e
  ·rw [Zom f _ fun e=>by rw [e,s] at y;cases y]
   exact P b y
  ·have A:=Zsc m
   by_cases o:i=j
   ·subst o
    obtain rfl:b=a:=by
      have B:=Y5 m
      have a2:=Y5 s
      rw [B] at a2
      cases a2
      rfl
    rw [s] at m
    cases m
    refine ⟨fun e=>?_,fun _=>⟨v,ZpN _ _ _,r g⟩⟩
    rw [Zx2] at e
    cases e
   ·rw [ZjC fun e=>o (p i A e),Zom f _ fun e=>by
      rw [e,s] at m
      cases m
      exact o rfl]
    exact ⟨(E b i q m).1,fun e=>let ⟨w,B,a2⟩:=(E b i q m).2 e;⟨w,B,r a2⟩⟩
theorem Lit.all {d:Nat->Bool} {sm:Option Nat} {h:Zc} (l:Lit G F mi ins h0 d sm h) (em:d mi=true) (hd:∀ j,j<F.length->d (ins j)=true) :
    ∃ (b:Nat) (f:BL->Option Value) (n:Nat) (cls:Nat->Value),sm=some b/\sz h0<=b/\Zq0 h b f n/\(∀ a,f a=(Zbh a F 0).map fun p=>cls p.1)/\∀ a j k,Zbh a F 0=some (j,k)->G k j (cls j) h:=by
  obtain ⟨s,t,m⟩:=l
  obtain ⟨b,f,n,rfl,o,q,r,i⟩:=m em
  refine ⟨b,f,n,fun j=>match F[j]? with
    | some p=>(f p.1).getD .nilFunc
    | none=> .nilFunc,rfl,o,q,fun a=>?_,fun a j k e=>?_⟩
  ·cases c:Zbh a F 0 with
   | none=>exact r a c
   | some p =>
     obtain ⟨j,k⟩:=p
     obtain ⟨v,g,a2⟩:=(i a j k c).2 (hd j (Zsc c))
     simp only [Aqx,Y5 c,g,Axo]
  ·obtain ⟨v,g,a2⟩:=(i a j k e).2 (hd j (Zsc e))
   simp only [Y5 e,g,Axo]
   exact a2
end
theorem Box.map {h h':Zc} {c:Nat} {v:Value} (u:ZFv h h') (b:Box h c v):Box h' c v:=by
  obtain ⟨d,f,n,⟨es,g,a,_⟩,u⟩:=u
  refine b.upd u fun e=>?_
  obtain ⟨T,b⟩:=b
  subst e
  rw [show obj h c=h[c]? from rfl,a] at b
  cases b
theorem Xs {h h':Zc} {x:Sl} {n:Nat} {vs:List Value} (u:ZFv h h') (r:Row h x n vs):Row h' x n vs:=by
  obtain ⟨j,f,k,⟨es,l,d,_⟩,u⟩:=u
  refine r.congr fun b o hp a g=>Zt u g fun e=>?_
  subst e
  rcases r.at_ with h0 | ⟨m,p,c,i⟩
  ·exact a (r.nil_of h0)
  ·rw [hp] at c
   cases c
   cases vs with
   | nil=>exact a rfl
   | cons v0 q =>
     have:=i.1
     unfold Zc.cell at this
     rw [d] at this
     cases this
theorem YG.map {R B:Nat} {W:Nat->Prop} {k:FK} {j:Nat} {v:Value} {h h':Zc} (u:ZFv h h') (g:YG R B W k j v h):YG R B W k j v h':=by
  cases k with
  | text=>obtain ⟨i,c2,e,w,a,b⟩:=g;exact ⟨i,c2,e,w,a.map u,b.map u⟩
  | num=>obtain ⟨i,c2,e,w,a,b⟩:=g;exact ⟨i,c2,e,w,a.map u,b.map u⟩
  | yes=>obtain ⟨i,c2,e,w,a,b⟩:=g;exact ⟨i,c2,e,w,a.map u,b.map u⟩
  | word ws=>obtain ⟨i,c2,c3,x,F,e,w,a,b,c,d,f⟩:=g;exact ⟨i,c2,c3,x,F,e,w,a.map u,b.map u,⟨Xs u c.1,c.2⟩,d,f.map u⟩
  | texts=>obtain ⟨i,c2,c3,e,w,a,b,c⟩:=g;exact ⟨i,c2,c3,e,w,a.map u,b.map u,c.map u⟩
  | items=>obtain ⟨i,c2,c3,e,w,a,b,c⟩:=g;exact ⟨i,c2,c3,e,w,a.map u,b.map u,c.map u⟩
end Go.Proofs.YtpjbjdheeemdiaaGreatDoor
