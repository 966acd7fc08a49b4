/- Rules in plain words: the five kinds, what is wrong with them, which values say them. No program. -/
import Derived.KernelRfl
import Derived.Test.YtpjbjdheeemdiaaGreatDoorPa13
set_option linter.unusedVariables false
set_option linter.unusedSimpArgs false
namespace Go.Js
open Go
structure FlowP where
  (res org:BL) (thr:Bool) (cnt:Int) (strat:Nat) (ref:BL) (shape:Nat) (warm queue:Int) (clu:Bool) (id:Int) (fb:Bool)
deriving DecidableEq
structure Yx where
  (res:BL) (grade:Nat) (cnt slow least window recover:Int)
deriving DecidableEq
structure Zew where
  (res:BL) (index cnt secs:Int) (items:List (BL × Int))
deriving DecidableEq
structure Y4 where
  (qps threads rt load cpu:Int)
deriving DecidableEq
structure ZaI where
  (res:BL) (white:Bool) (origins:List BL)
deriving DecidableEq
structure RulesP where
  (fl:List FlowP) (br:List Yx) (ho:List Zew) (sy:List Y4) (li:List ZaI)
deriving DecidableEq
def RulesP.zero:RulesP:=⟨[],[],[],[],[]⟩
def FlowP.mv (f:FlowP):List MV:=[.t f.res,.t f.org,.b f.thr,.n f.cnt,.w f.strat,.t f.ref,.w f.shape,.n f.warm,.n f.queue,.b f.clu,.n f.id,.b f.fb]
def Yx.mv (f:Yx):List MV:=[.t f.res,.w f.grade,.n f.cnt,.n f.slow,.n f.least,.n f.window,.n f.recover]
def Zew.mv (f:Zew):List MV:=[.t f.res,.n f.index,.n f.cnt,.n f.secs,.is f.items]
def Y4.mv (f:Y4):List MV:=[.n f.qps,.n f.threads,.n f.rt,.n f.load,.n f.cpu]
def ZaI.mv (f:ZaI):List MV:=[.t f.res,.b f.white,.ts f.origins]
def Zkx:List MV->FlowP
  | [.t a,.t b,.b c,.n d,.w e,.t f,.w g,.n h,.n i,.b j,.n k,.b l]=>⟨a,b,c,d,e,f,g,h,i,j,k,l⟩
  | _=>⟨[],[],false,0,0,[],0,0,0,false,0,false⟩
def Zj4:List MV->Yx
  | [.t a,.w b,.n c,.n d,.n e,.n f,.n g]=>⟨a,b,c,d,e,f,g⟩
  | _=>⟨[],0,0,0,0,0,0⟩
def Zn3:List MV->Zew
  | [.t a,.n b,.n c,.n d,.is e]=>⟨a,b,c,d,e⟩
  | _=>⟨[],0,0,0,[]⟩
def ZiZ:List MV->Y4
  | [.n a,.n b,.n c,.n d,.n e]=>⟨a,b,c,d,e⟩
  | _=>⟨0,0,0,0,0⟩
def Zlt:List MV->ZaI
  | [.t a,.b b,.ts c]=>⟨a,b,c⟩
  | _=>⟨[],false,[]⟩
def MV.sort:MV->Nat
  | .t _=>0 | .n _=>1 | .b _=>2 | .w _=>3 | .ts _=>4 | .is _=>5
theorem Zmq {x:MV} (h:x.sort=0):∃ s,x = .t s:=by cases x<;>simp [MV.sort] at h;exact ⟨_,rfl⟩
theorem Zex {x:MV} (h:x.sort=1):∃ s,x = .n s:=by cases x<;>simp [MV.sort] at h;exact ⟨_,rfl⟩
theorem Zug {x:MV} (h:x.sort=2):∃ s,x = .b s:=by cases x<;>simp [MV.sort] at h;exact ⟨_,rfl⟩
theorem ZxY {x:MV} (h:x.sort=3):∃ s,x = .w s:=by cases x<;>simp [MV.sort] at h;exact ⟨_,rfl⟩
theorem ZEn {x:MV} (h:x.sort=4):∃ s,x = .ts s:=by cases x<;>simp [MV.sort] at h;exact ⟨_,rfl⟩
theorem ZEo {x:MV} (h:x.sort=5):∃ s,x = .is s:=by cases x<;>simp [MV.sort] at h;exact ⟨_,rfl⟩
theorem ZF {α β:Type} {f:α->β} {l:List α} {b:β} {r:List β} (h:l.map f=b::r):∃ a c,l=a::c/\f a=b/\c.map f=r:=by
  cases l with
  | nil=>cases h
  | cons a c=>simp only [Awo,Axy] at h;exact ⟨a,c,rfl,h.1,h.2⟩
theorem ZeF {α β:Type} {f:α->β} {l:List α} (h:l.map f=[]):l=[]:=by simpa using h
theorem Zty {m:List MV} (h:m.map MV.sort=Zsb.map MV.sort):m=(Zkx m).mv:=by
  obtain ⟨s,l,rfl,d,h⟩:=ZF h
  obtain ⟨t,l,rfl,e,h⟩:=ZF h
  obtain ⟨u,l,rfl,f,h⟩:=ZF h
  obtain ⟨v,l,rfl,g,h⟩:=ZF h
  obtain ⟨w,l,rfl,i,h⟩:=ZF h
  obtain ⟨x,l,rfl,j,h⟩:=ZF h
  obtain ⟨y,l,rfl,k,h⟩:=ZF h
  obtain ⟨z,l,rfl,n,h⟩:=ZF h
  obtain ⟨A,l,rfl,o,h⟩:=ZF h
  obtain ⟨p,l,rfl,a,h⟩:=ZF h
  obtain ⟨q,l,rfl,b,h⟩:=ZF h
  obtain ⟨r,l,rfl,c,h⟩:=ZF h
  have:=ZeF h;subst this
  obtain ⟨_,rfl⟩:=Zmq d
  obtain ⟨_,rfl⟩:=Zmq e
  obtain ⟨_,rfl⟩:=Zug f
  obtain ⟨_,rfl⟩:=Zex g
  obtain ⟨_,rfl⟩:=ZxY i
  obtain ⟨_,rfl⟩:=Zmq j
  obtain ⟨_,rfl⟩:=ZxY k
  obtain ⟨_,rfl⟩:=Zex n
  obtain ⟨_,rfl⟩:=Zex o
  obtain ⟨_,rfl⟩:=Zug a
  obtain ⟨_,rfl⟩:=Zex b
  obtain ⟨_,rfl⟩:=Zug c
  rfl
theorem ZqP {m:List MV} (h:m.map MV.sort=Zlw.map MV.sort):m=(Zj4 m).mv:=by
  obtain ⟨i,l,rfl,a,h⟩:=ZF h
  obtain ⟨j,l,rfl,b,h⟩:=ZF h
  obtain ⟨k,l,rfl,c,h⟩:=ZF h
  obtain ⟨n,l,rfl,d,h⟩:=ZF h
  obtain ⟨o,l,rfl,e,h⟩:=ZF h
  obtain ⟨p,l,rfl,f,h⟩:=ZF h
  obtain ⟨q,l,rfl,g,h⟩:=ZF h
  have:=ZeF h;subst this
  obtain ⟨_,rfl⟩:=Zmq a
  obtain ⟨_,rfl⟩:=ZxY b
  obtain ⟨_,rfl⟩:=Zex c
  obtain ⟨_,rfl⟩:=Zex d
  obtain ⟨_,rfl⟩:=Zex e
  obtain ⟨_,rfl⟩:=Zex f
  obtain ⟨_,rfl⟩:=Zex g
  rfl
theorem ZuM {m:List MV} (h:m.map MV.sort=ZwF.map MV.sort):m=(Zn3 m).mv:=by
  obtain ⟨f,l,rfl,a,h⟩:=ZF h
  obtain ⟨g,l,rfl,b,h⟩:=ZF h
  obtain ⟨i,l,rfl,c,h⟩:=ZF h
  obtain ⟨j,l,rfl,d,h⟩:=ZF h
  obtain ⟨k,l,rfl,e,h⟩:=ZF h
  have:=ZeF h;subst this
  obtain ⟨_,rfl⟩:=Zmq a
  obtain ⟨_,rfl⟩:=Zex b
  obtain ⟨_,rfl⟩:=Zex c
  obtain ⟨_,rfl⟩:=Zex d
  obtain ⟨_,rfl⟩:=ZEo e
  rfl
theorem Zrm {m:List MV} (h:m.map MV.sort=Zjz.map MV.sort):m=(ZiZ m).mv:=by
  obtain ⟨f,l,rfl,a,h⟩:=ZF h
  obtain ⟨g,l,rfl,b,h⟩:=ZF h
  obtain ⟨i,l,rfl,c,h⟩:=ZF h
  obtain ⟨j,l,rfl,d,h⟩:=ZF h
  obtain ⟨k,l,rfl,e,h⟩:=ZF h
  have:=ZeF h;subst this
  obtain ⟨_,rfl⟩:=Zex a
  obtain ⟨_,rfl⟩:=Zex b
  obtain ⟨_,rfl⟩:=Zex c
  obtain ⟨_,rfl⟩:=Zex d
  obtain ⟨_,rfl⟩:=Zex e
  rfl
theorem Zto {m:List MV} (h:m.map MV.sort=Zqt.map MV.sort):m=(Zlt m).mv:=by
  obtain ⟨d,l,rfl,a,h⟩:=ZF h
  obtain ⟨e,l,rfl,b,h⟩:=ZF h
  obtain ⟨f,l,rfl,c,h⟩:=ZF h
  have:=ZeF h;subst this
  obtain ⟨_,rfl⟩:=Zmq a
  obtain ⟨_,rfl⟩:=Zug b
  obtain ⟨_,rfl⟩:=ZEn c
  rfl
def ZCi (c:UInt8):Bool:=decide (33<=c.toNat)&&decide (c.toNat<=126)
def Za1 (l:BL):Bool:=l.all ZCi&&(decide (1<=l.length)&&decide (l.length<=64))
def inB (n a b:Int):Bool:=decide (a<=n)&&decide (n<=b)
def ZcE (asked:Bool) (n a b:Int):Bool:=if asked then inB n a b else decide (n=0)
def Zhd:List BL->Bool
  | []=>false
  | a::l=>decide (a∈l)||Zhd l
def FlowP.names (f:FlowP):Bool:=Za1 f.res&&Za1 f.org&&(if f.strat=1\/f.strat=2 then Za1 f.ref else true)
def FlowP.good (f:FlowP):Bool :=
  inB f.cnt (if f.shape=0 then 0 else 1) 1099511627776&&(decide (f.strat<=2)&&decide (f.shape<=3))&&(!decide (f.strat=0)||decide (f.ref=[]))&&(!f.thr||decide (f.shape=0) && !f.clu) &&
  (ZcE (decide (f.shape=1)||decide (f.shape=3)) f.warm 1 3600&&ZcE (decide (f.shape=2)||decide (f.shape=3)) f.queue 0 3600000000) &&
  (!f.clu||decide (f.strat=0)&&decide (f.shape=0))&&(ZcE f.clu f.id 1 1099511627776&&(f.clu || !f.fb))
def FlowP.err (f:FlowP):Nat:=if f.names then (if f.good then 0 else 30) else 10
def Yx.good (b:Yx):Bool :=
  (decide (b.grade<=2)&&inB b.cnt 0 (if b.grade=2 then 1099511627776 else 1000))&&ZcE (decide (b.grade=0)) b.slow 1 3600000000 &&
  (inB b.least 1 1099511627776&&inB b.window 1000000 120000000)&&inB b.recover 1000000 3600000000
def Yx.err (b:Yx):Nat:=if Za1 b.res then (if b.good then 0 else 31) else 10
def Zew.good (b:Zew):Bool :=
  (inB b.index 0 7&&inB b.cnt 0 1099511627776)&&(inB b.secs 1 60&&decide (b.items.length<=32) && !Zhd (b.items.map (·.1)))&&b.items.all fun p=>decide (p.1.length<=64)&&inB p.2 0 1099511627776
def Zew.err (b:Zew):Nat:=if Za1 b.res then (if b.good then 0 else 32) else 10
def Y4.err (b:Y4):Nat:=if inB b.qps (-1) 1099511627776&&inB b.threads (-1) 1099511627776&&inB b.rt (-1) 1099511627776&&inB b.load (-1) 1099511627776&&inB b.cpu (-1) 1099511627776 then 0 else 33
def ZaI.err (b:ZaI):Nat:=if Za1 b.res&&b.origins.all Za1 then (if decide (1<=b.origins.length)&&decide (b.origins.length<=32) && !Zhd b.origins then 0 else 34) else 10
def Zct {α:Type} (f:α->Nat):List α->Nat->Option (Nat × Nat)
  | [],_=>none
  | a::l,i=>if f a=0 then Zct f l (i+1) else some (i,f a)
def RulesP.whereE (r:RulesP):Nat × Nat × Nat :=
  if 256<r.fl.length then (1,0,5) else if 256<r.br.length then (2,0,5) else if 256<r.ho.length then (3,0,5) else if 256<r.sy.length then (4,0,5) else if 256<r.li.length then (5,0,5) else
  match Zct FlowP.err r.fl 0 with
  | some (i,e)=>(1,i,e)
  | none=>match Zct Yx.err r.br 0 with
    | some (i,e)=>(2,i,e)
    | none=>match Zct Zew.err r.ho 0 with
      | some (i,e)=>(3,i,e)
      | none=>match Zct Y4.err r.sy 0 with
        | some (i,e)=>(4,i,e)
        | none=>match Zct ZaI.err r.li 0 with
          | some (i,e)=>(5,i,e)
          | none=>(0,0,0)
def Za0 (v:JV):Except Nat FlowP:=(Xn ZaR Zn6 Zsb v).map Zkx
def Zal (v:JV):Except Nat Yx:=(Xn ZaR Zjr Zlw v).map Zj4
def Zcc (v:JV):Except Nat Zew:=(Xn ZaR Zts ZwF v).map Zn3
def Zaa (v:JV):Except Nat Y4:=(Xn ZaR ZgN Zjz v).map ZiZ
def ZaY (v:JV):Except Nat ZaI:=(Xn ZaR Zla Zqt v).map Zlt
def Zap {α:Type} (f:JV->Except Nat α):List JV->Nat->Except (Nat × Nat) (List α)
  | [],_=> .ok []
  | v::l,i=>match f v with
    | .error e=> .error (i,e)
    | .ok a=>match Zap f l (i+1) with
      | .error p=> .error p
      | .ok b=> .ok (a::b)
def ZjE:List (BL × Unit):=[(tx "flow", ()),(tx "break", ()),(tx "hot", ()),(tx "system", ()),(tx "authority", ())]
def ZjF:List JL:=[.nil,.nil,.nil,.nil,.nil]
def ZnK (l:List JL) (i:Nat):List JV:=(l.getD i .nil).list
def Zb1 (l:List JL):Except (Nat × Nat × Nat) RulesP :=
  match Zap Za0 (ZnK l 0) 0 with
  | .error (i,e)=> .error (1,i,e)
  | .ok a=>match Zap Zal (ZnK l 1) 0 with
    | .error (i,e)=> .error (2,i,e)
    | .ok b=>match Zap Zcc (ZnK l 2) 0 with
      | .error (i,e)=> .error (3,i,e)
      | .ok c=>match Zap Zaa (ZnK l 3) 0 with
        | .error (i,e)=> .error (4,i,e)
        | .ok d=>match Zap ZaY (ZnK l 4) 0 with
          | .error (i,e)=> .error (5,i,e)
          | .ok f=> .ok ⟨a,b,c,d,f⟩
def Zho (v:JV):Except (Nat × Nat × Nat) RulesP :=
  match Xn ZhI ZjE ZjF v with
  | .error e=> .error (0,0,e)
  | .ok l=>match Zb1 l with
    | .error p=> .error p
    | .ok r=>if r.whereE.2.2=0 then .ok r else .error r.whereE
end Go.Js
namespace Go.Js
open Go
def FK.sort:FK->Nat
  | .text=>0 | .num=>1 | .yes=>2 | .word _=>3 | .texts=>4 | .items=>5
theorem ZvT {k:FK} {v:JV} {x:MV} (h:Zdn k v = .ok x):x.sort=k.sort:=by
  cases k<;>simp only [Zdn] at h
  case text=>split at h<;>cases h;rfl
  case num =>
    split at h
    ·split at h<;>cases h
     rfl
    ·cases h
  case yes =>
    split at h
    ·cases h;rfl
    ·split at h<;>cases h
     rfl
  case word =>
    split at h
    ·split at h<;>cases h
     rfl
    ·cases h
  case texts =>
    split at h
    ·split at h<;>cases h
     rfl
    ·cases h
  case items=>cases h
theorem ZoH {k:FK} {v:JV} {x:MV} (h:ZaR k v = .ok x):x.sort=k.sort:=by
  cases k
  case items =>
    simp only [ZaR] at h
    split at h
    ·split at h<;>cases h
     rfl
    ·cases h
  all_goals exact ZvT h
theorem ZoG {κ μ:Type} {rd:κ->JV->Except Nat μ} (b:∀ k v e,rd k v = .error e->e=26\/e=21) {F:List (BL × κ)}:∀ {l:List (BL × JV)} {seen:List BL} {m:List μ} {e:Nat},Zhh rd F seen l m = .error e->e=26\/e=21
  | [],_,_,_,h=>by cases h
  | (a,v)::r,seen,m,e,h=>by
    simp only [Zhh] at h
    split at h
    ·cases h;exact .inl rfl
    ·split at h
     ·cases h;exact .inl rfl
     ·split at h
      ·rename_i c he
       cases h
       exact b _ _ _ he
      ·exact ZoG b h
theorem ZjI {κ μ:Type} {rd:κ->JV->Except Nat μ} (a:∀ k v e,rd k v = .error e->e=26\/e=21) {F:List (BL × κ)} {v:JV} {m:List μ} {e:Nat} (h:Xn rd F m v = .error e):e=26\/e=21:=by
  unfold Xn at h
  split at h
  ·exact ZoG a h
  ·cases h;exact .inl rfl
theorem ZuE {α β:Type} {f:α->Except Nat β} (b:∀ a e,f a = .error e->e=26\/e=21):∀ {l:List α} {e:Nat},ZkH f l = .error e->e=26\/e=21
  | [],_,h=>by cases h
  | a::l,e,h=>by
    simp only [ZkH] at h
    split at h
    ·rename_i c he
     cases h
     exact b _ _ he
    ·split at h
     ·rename_i c he
      cases h
      exact ZuE b he
     ·cases h
theorem ZrA {v:JV} {e:Nat} (h:ZaZ v = .error e):e=26\/e=21:=by
  unfold ZaZ at h
  split at h
  ·cases h
  ·rename_i a he
   cases h
   exact ZjI (fun _ _ _=>ZrB) he
theorem Zko {k:FK} {v:JV} {e:Nat} (h:ZaR k v = .error e):e=26\/e=21:=by
  cases k
  case items =>
    simp only [ZaR] at h
    split at h
    ·split at h
     ·cases h
     ·rename_i a he
      cases h
      exact ZuE (fun _ _=>ZrA) he
    ·cases h;exact .inl rfl
  all_goals (simp only [ZaR] at h;exact ZrB h)
theorem Zib:∀ {l:JL} {w:JV},w∈l.list->wV w<=pw l
  | .nil,w,h=>by simp [JL.list] at h
  | .cons k t ns s r,w,h=>by
    simp only [JL.list,Awr] at h
    simp only [pw]
    rcases h with h | h
    ·subst h;simp only [wV];omega
    ·have:=Zib h;omega
theorem Zey:∀ l:JL,l.len<=pw l
  | .nil=>Aqo _
  | .cons k t ns s r=>by have:=Zey r;simp only [JL.len,pw];omega
end Go.Js
namespace Go.Proofs.YtpjbjdheeemdiaaGreatDoor
open Go Go.Fw Go.Js
theorem ZyH:∀ x:MV,mk x=x.sort:=fun x=>by cases x<;>rfl
theorem YG.bound {R B:Nat} {W:Nat->Prop} {k:FK} {j:Nat} {v:Value} {h:Zc} (g:YG R B W k j v h):YG R B (fun b=>W b/\b<sz h) k j v h:=by
  cases k with
  | text=>obtain ⟨i,c2,e,w,a,b⟩:=g;exact ⟨i,c2,e,⟨⟨w.1,a.lt⟩,w.2,b.lt⟩,a,b⟩
  | num=>obtain ⟨i,c2,e,w,a,b⟩:=g;exact ⟨i,c2,e,⟨⟨w.1,a.lt⟩,w.2,b.lt⟩,a,b⟩
  | yes=>obtain ⟨i,c2,e,w,a,b⟩:=g;exact ⟨i,c2,e,⟨⟨w.1,a.lt⟩,w.2,b.lt⟩,a,b⟩
  | word ws=>obtain ⟨i,c2,c3,x,F,e,w,a,b,c,d,f⟩:=g;exact ⟨i,c2,c3,x,F,e,⟨⟨w.1,a.lt⟩,⟨w.2.1,b.lt⟩,w.2.2,f.lt⟩,a,b,⟨c.1,fun l y m=>⟨c.2 l y m,Zkm c.1 (by decide) l y m⟩⟩,d,f⟩
  | texts=>obtain ⟨i,c2,c3,e,w,a,b,c⟩:=g;exact ⟨i,c2,c3,e,⟨⟨w.1,a.lt⟩,⟨w.2.1,b.lt⟩,w.2.2,c.lt⟩,a,b,c⟩
  | items=>obtain ⟨i,c2,c3,e,w,a,b,c⟩:=g;exact ⟨i,c2,c3,e,⟨⟨w.1,a.lt⟩,⟨w.2.1,b.lt⟩,w.2.2,c.lt⟩,a,b,c⟩
def Zvq (a:Zcv):Prop:=∀ {h:Zc} {R B:Nat} {T:TypeId} {base:Nat} {m:List MV} {c3:Nat} {l:List (BL × Int)} {z:VT5} {v:JV} {S:Nat->Prop} {K:HP},Er h R 0->Zha B T base m h->B≠R->R<base->B<base->base<=sz h->9<=R->9<=B ->
  Box h c3 (.pointer (At R))->(c3<base/\c3≠R/\c3≠B)->m[4]?=some (.is l)->Zn2 m 4->l.length<=1000000000000->ZaT h->ZaS h S z v->(∀ b,S b->b<base/\b≠R/\b≠B)->wV v<=1000000000000 ->
  (∀ x h',ZaZ v = .ok x->Zha B T base (m.set 4 (.is (l++[x]))) h'->Er h' R 0->Upd (Wr R B base) h h'->K h') ->
  (∀ e c h',ZaZ v = .error e->e≠0->Zha B T base (m.set 4 (.is c)) h'->Er h' R e->Upd (Wr R B base) h h'->K h')->a z (At c3) (At B) K h
def ZFu (F:ZzZ) (m0:List MV):Prop:=∀ a j k,Zbh a F 0=some (j,k)->match k with
  | .texts=>j=2/\m0[2]?=some (.ts [])/\Zn2 m0 2
  | .items=>j=4/\m0[4]?=some (.is [])/\Zn2 m0 4
  | .word ws=>ws.length<=255
  | _=>True
theorem ZoZ {m m0:List MV} {j:Nat} (h:Zn2 m0 j) (e:m.map mk=m0.map mk):Zn2 m j:=fun i y f b=>by
  have a:(m.map mk)[i]?=some (mk y):=by rw [Awz,f];rfl
  rw [e,Awz] at a
  cases c:m0[i]? with
  | none=>rw [c] at a;cases a
  | some d =>
    rw [c] at a
    have:mk d=mk y:=by simpa using a
    rw [<- this]
    exact h i d c b
theorem ZoR {f165:Zdk} {F:ZzZ} {m0:List MV} (Z:(∀ a j,Zbh a F 0≠some (j,.items))\/Zvq (Xo f165)) (aa:F.map (·.2.sort)=m0.map mk) (N:ZFu F m0)
    {g:Zc} {R B:Nat} {T:TypeId} {W:Nat->Prop} {mb n:Nat} {f:BL->Option Value} {cls:Nat->Value} (er:Er g R 0) (rc:Zha B T (sz g+1) m0 g) (ne:B≠R) (i:∀ b,W b->b≠R/\b≠B) (r9:9<=R) (b9:9<=B)
    (M:Zq0 g mb f n) (hf:∀ a,f a=(Zbh a F 0).map fun p=>cls p.1) (aS:mb≠R/\mb≠B) (hG:∀ a j k,Zbh a F 0=some (j,k)->YG R B W k j (cls j) g) (ht:ZaT g)
    {z:VT5} {v:JV} {S:Nat->Prop} (hv:ZaS g S z v) (hS:∀ b,S b->b<sz g/\b≠R/\b≠B) (hw:wV v<=1000000000000)
    {K:HP} (ok:∀ m h',Xn ZaR F m0 v = .ok m->m.map mk=m0.map mk->Zha B T (sz g+1) m h'->Er h' R 0->Upd (Wr R B (sz g+1)) g h'->K h')
    (bad:∀ e m h',Xn ZaR F m0 v = .error e->e≠0->m.map mk=m0.map mk->Zha B T (sz g+1) m h'->Er h' R e->Upd (Wr R B (sz g+1)) g h'->K h') :
    Xt f165 (At R) z (some mb) K g:=by
  have hR:=er.lt
  have hB:=rc.lt
  have aU:m0.length=F.length:=by have:=congrArg List.length aa;simpa using this.symm
  have aw:pw v.sub<=1000000000000:=by have:=hw;unfold wV at this;omega
  refine ZoV (rd:=ZaR) (F:=F) (m0:=m0) (tgt:=fun m h=>Zha B T (sz g+1) m h/\m.map mk=m0.map mk) (W:=Wr R B (sz g+1)) (P:=fun w=>wV w<=1000000000000) (cls:=cls) er ⟨rc,rfl⟩ (.inl rfl) ?_ M hf ?_ ?_ ?_ hv (fun b o=>?_) (fun w hw=>Aqp (Zib hw) aw) ?_
    (fun m h' a b c d=>ok m h' a b.2 b.1 c d) fun e m h' a b c d=>bad e m h' a (by rcases ZjI (fun _ _ _=>Zko) a with e | e<;>omega) b.2 b.1 c d
  ·have:sz g=g.size:=rfl
   rintro (e | e | e)<;>omega
  ·have:=M.lt
   have:sz g=g.size:=rfl
   rintro (e | e | e)<;>omega
  ·intro a j k hq
   exact (hG a j k hq).fn
  ·intro m h h' a hs u
   exact ⟨a.1.upd u ne fun b e=> .inl (by omega),a.2⟩
  ·obtain ⟨A,E,X⟩:=hS b o
   refine ⟨A,?_⟩
   rintro (e | e | e)<;>omega
  ·intro h m j k a z' v' K' u ab C D s I J hm O G
   have g0:=(hG a j k s).bound
   have aW:=Zsc s
   have Q:∃ x0,m[j]?=some x0/\mk x0=k.sort:=by
     have h1:(F.map (·.2.sort))[j]?=some k.sort:=by rw [Awz,Y5 s];rfl
     rw [aa,<- C.2,Awz] at h1
     cases hq:m[j]? with
     | none=>rw [hq] at h1;cases h1
     | some x0=>rw [hq] at h1;exact ⟨x0,rfl,by simpa using h1⟩
   obtain ⟨x0,H,af⟩:=Q
   have U:∀ {x:MV},ZaR k v' = .ok x->(m.set j x).map mk=m0.map mk:=fun Q=>by rw [ZuA H (by rw [af,ZyH,ZoH Q])];exact C.2
   have u9:ZaT h:=ht.upd u fun b o=>by rcases o with e | e | e<;>omega
   have aY:sz g<=sz h:=u.size
   have t:∀ {c:Nat} {w:Value},Box g c w->W c/\c<sz g->Box h c w:=fun {c w'} b w=>b.upd u fun o=>by
     have:=i c w.1
     rcases o with e | e | e<;>omega
   have L:ZBU h R B T (sz g+1) m j (ZaR k v') K':=⟨fun x h' a b c d=>O x h' a ⟨b,U a⟩ c (d.mono fun b _ e=>e.elim .inl fun e=> .inr (.inl e)),
     fun e m' h' a b c d f=>G e m' h' a (by rcases Zko a with e | e<;>omega) ⟨c,b.trans C.2⟩ d (f.mono fun b _ e=>e.elim .inl fun e=> .inr (.inl e))⟩
   cases k with
   | text =>
     obtain ⟨q,c2,e,w,A,E⟩:=g0
     have k1:=i q w.1.1
     have k2:=i c2 w.2.1
     exact .inl ⟨(At q,At c2,()),e,ZEk ⟨D,C.1,ne,by omega,by omega,t A w.1,t E w.2,by omega,by omega⟩ H I.1 I.2.1 L⟩
   | yes =>
     obtain ⟨q,c2,e,w,A,E⟩:=g0
     have k1:=i q w.1.1
     have k2:=i c2 w.2.1
     exact .inr (.inl ⟨(At q,At c2,()),e,ZGh ⟨D,C.1,ne,by omega,by omega,t A w.1,t E w.2,by omega,by omega⟩ H af I.1 L⟩)
   | num =>
     obtain ⟨q,c2,e,w,A,E⟩:=g0
     have k1:=i q w.1.1
     have k2:=i c2 w.2.1
     exact .inr (.inr (.inl ⟨(At q,At c2,()),e,Zyx ⟨D,C.1,ne,by omega,by omega,t A w.1,t E w.2,by omega,by omega⟩ H u9 I.1 I.2.1 (by unfold wV at J;omega) L⟩))
   | word ws =>
     obtain ⟨q,c2,c3,x,F',e,w,A,E,⟨ay,ai⟩,kw,X⟩:=g0
     have k1:=i q w.1.1
     have k2:=i c2 w.2.1.1
     have k3:=i c3 w.2.2.1
     have az:inS (fun b=>b<sz h) x:=fun aA b o=>by have:=(ai aA b o).2;omega
     exact .inr (.inr (.inr (.inl ⟨(At q,At c2,At c3,()),e,ZEc D C.1 ne (by omega) (by omega) (t A w.1) (t E w.2.1) (Ym ay ai fun b o hl=>Zt u hl fun hU=>by
       have:=i b o.1
       rcases hU with e | e | e<;>omega) az (N a j _ s) kw (t X w.2.2) H I.1 I.2.1 L⟩)))
   | texts =>
     obtain ⟨q,c2,c3,e,w,A,E,X⟩:=g0
     have k1:=i q w.1.1
     have k2:=i c2 w.2.1.1
     have k3:=i c3 w.2.2.1
     obtain ⟨rfl,q1,q2⟩:=N a j _ s
     refine .inr (.inr (.inr (.inr (.inl ⟨(At q,At c2,()),e,?_⟩))))
     exact ZAD (S:=S) D C.1 ne (by omega) (by omega) ab (t A w.1) (t X w.2.2) (t E w.2.1) (by omega) (by omega) (by omega) I (fun b o=>by obtain ⟨y1,y2,y3⟩:=hS b o;exact ⟨by omega,y2,y3⟩) (hm.trans q1) (ZoZ q2 C.2)
       (by have:=Zey v'.sub;unfold wV at J;omega) (fun x h' a b c d=>O x h' a ⟨b,U a⟩ c d) fun e m' h' a b c d f=>G e m' h' a (by rcases Zko (k:= .texts) a with e | e<;>omega) ⟨c,b.trans C.2⟩ d f
   | items =>
     obtain ⟨q,c2,c3,e,w,A,E,X⟩:=g0
     have k1:=i q w.1.1
     have k2:=i c2 w.2.1.1
     have k3:=i c3 w.2.2.1
     obtain ⟨rfl,q1,q2⟩:=N a j _ s
     rcases Z with Z | Z
     ·exact absurd s (Z a 4)
     refine .inr (.inr (.inr (.inr (.inl ⟨(At q,At c2,()),e,?_⟩))))
     have V:m[4]?=some (.is []):=hm.trans q1
     refine Zvl (S:=S) (rdE:=ZaZ) (wrap:=MV.is) (P:=fun w=>wV w<=1000000000000) D C.1 ne (by omega) (by omega) ab (t A w.1) (t E w.2.1) (by omega) (by omega) I (fun b o=>by obtain ⟨y1,y2,y3⟩:=hS b o;exact ⟨by omega,y2,y3⟩)
       (fun w hw=>Aqp (Zib hw) (by unfold wV at J;omega)) V (by have:=Zey v'.sub;unfold wV at J;omega) (fun {h5 l z5 v5 K5} u5 r5 e5 hl aG aH aI ak=>?_) (fun l h' Y aJ r e u=>?_) fun e l' h' y r e' u=>?_
     ·have aK:=u.trans u5
      have s5:sz h<=sz h5:=u5.size
      refine .inl ⟨(At c3,At B,()),rfl,?_⟩
      refine Z (S:=S) (l:=l) e5 r5 ne (by omega) (by omega) (by omega) r9 b9 ((t X w.2.2).upd u5 fun hU=>by rcases hU with e | e | e<;>omega) (by omega) (by rw [Ayv (Azl.1 V).1]) (ZrU (ZoZ q2 C.2) _) hl
        (ht.upd aK fun b o=>by rcases o with e | e | e<;>omega) aG (fun b o=>by obtain ⟨y1,y2,y3⟩:=hS b o;exact ⟨by omega,y2,y3⟩) aH (fun x h' Q r' e' u'=>?_) fun e l' h' Q h9 r' e' u'=>?_
      ·rw [List.set_set] at r'
       exact aI x h' Q r' e' u'
      ·rw [List.set_set] at r'
       exact ak e l' h' Q h9 r' e' u'
     ·have hr:ZaR .items v' = .ok (.is l):=by simp [ZaR,Y,aJ]
      exact O (.is l) h' hr ⟨r,U hr⟩ e u
     ·have hr:ZaR .items v' = .error e:=by
        by_cases Y:v'.k=6
        ·rw [if_pos Y] at y
         simp [ZaR,Y,y]
        ·rw [if_neg Y] at y
         cases y
         simp [ZaR,Y]
      exact G e (m.set 4 (.is l')) h' hr (by rcases Zko (k:= .items) hr with e | e<;>omega) ⟨r,(ZuA (x:= .is l') V rfl).trans C.2⟩ e' u
end Go.Proofs.YtpjbjdheeemdiaaGreatDoor
namespace Go.Proofs.YtpjbjdheeemdiaaGreatDoor
open Go Go.Fw Go.Js
def i8 (n:Nat):Value:= .int .u8 (n:Int)
def i64 (n:Int):Value:= .int .i64 n
def Zd5 (f:FlowP):List Value:=[sV f.res,sV f.org,.bool f.thr,i64 f.cnt,i8 f.strat,sV f.ref,i8 f.shape,i64 f.warm,i64 f.queue,.bool f.clu,i64 f.id,.bool f.fb]
def Zcu (f:Yx):List Value:=[sV f.res,i8 f.grade,i64 f.cnt,i64 f.slow,i64 f.least,i64 f.window,i64 f.recover]
def ZbG (f:Y4):List Value:=[i64 f.qps,i64 f.threads,i64 f.rt,i64 f.load,i64 f.cpu]
def ZlF (p:Sl × Zew):List Value:=[sV p.2.res,i64 p.2.index,i64 p.2.cnt,i64 p.2.secs,slV p.1]
def Zgt (p:Sl × ZaI):List Value:=[sV p.2.res,.bool p.2.white,slV p.1]
def ZHE (h:Zc) (S:Nat->Prop) (p:Sl × Zew):Prop:=Row h p.1 2 (ZfF p.2.items)/\inS S p.1
def Zvp (h:Zc) (S:Nat->Prop) (p:Sl × ZaI):Prop:=Row h p.1 1 (p.2.origins.map sV)/\inS S p.1
abbrev VTR:=Sl × Sl × Sl × Sl × Sl × Unit
structure ZaB (h:Zc) (S:Nat->Prop) (z:VTR) (r:RulesP):Prop where
  fl:Row h z.1 12 (r.fl.flatMap Zd5)/\inS S z.1
  br:Row h z.2.1 7 (r.br.flatMap Zcu)/\inS S z.2.1
  ho:∃ hp:List (Sl × Zew),hp.map (·.2)=r.ho/\(Row h z.2.2.1 5 (hp.flatMap ZlF)/\inS S z.2.2.1)/\∀ p,p∈hp->ZHE h S p
  sy:Row h z.2.2.2.1 5 (r.sy.flatMap ZbG)/\inS S z.2.2.2.1
  li:∃ lp:List (Sl × ZaI),lp.map (·.2)=r.li/\(Row h z.2.2.2.2.1 3 (lp.flatMap Zgt)/\inS S z.2.2.2.2.1)/\∀ p,p∈lp->Zvp h S p
theorem ZhN {h h':Zc} {S:Nat->Prop} {x:Sl} {n:Nat} {vs:List Value} (r:Row h x n vs/\inS S x) (he:∀ b,S b->b<sz h->obj h' b=obj h b):Row h' x n vs/\inS S x:=⟨Ym r.1 r.2 he,r.2⟩
theorem ZaB.keep {h h':Zc} {S:Nat->Prop} {z:VTR} {r:RulesP} (a:ZaB h S z r) (he:∀ b,S b->b<sz h->obj h' b=obj h b):ZaB h' S z r:=by
  obtain ⟨hp,c,d,e⟩:=a.ho
  obtain ⟨f,g,i,j⟩:=a.li
  exact ⟨ZhN a.fl he,ZhN a.br he,⟨hp,c,ZhN d he,fun p hp=>ZhN (e p hp) he⟩,ZhN a.sy he,⟨f,g,ZhN i he,fun p hp=>ZhN (j p hp) he⟩⟩
theorem ZaB.ext {h h':Zc} {S:Nat->Prop} {z:VTR} {r:RulesP} (a:ZaB h S z r) (u:Ext h h'):ZaB h' S z r:=a.keep fun b _ c=>Zu u c
theorem ZaB.mono {h:Zc} {S S':Nat->Prop} {z:VTR} {r:RulesP} (a:ZaB h S z r) (e:∀ b,b<sz h->S b->S' b):ZaB h S' z r:=by
  obtain ⟨hp,f,g,i⟩:=a.ho
  obtain ⟨j,k,l,o⟩:=a.li
  have m:∀ {x:Sl} {n:Nat} {vs:List Value},0<n->Row h x n vs/\inS S x->Row h x n vs/\inS S' x:=fun {x n vs} q r=>⟨r.1,fun c b d=>e b (Zkm r.1 q c b d) (r.2 c b d)⟩
  exact ⟨m (by decide) a.fl,m (by decide) a.br,⟨hp,f,m (by decide) g,fun p hp=>m (by decide) (i p hp)⟩,m (by decide) a.sy,⟨j,k,m (by decide) l,fun p hp=>m (by decide) (o p hp)⟩⟩
theorem ZaB.zero (h:Zc) (S:Nat->Prop):ZaB h S (⟨Option.none,0,0⟩,⟨Option.none,0,0⟩,⟨Option.none,0,0⟩,⟨Option.none,0,0⟩,⟨Option.none,0,0⟩,()) RulesP.zero :=
  have nl:∀ n,Row h ⟨Option.none,0,0⟩ n []/\inS S (⟨Option.none,0,0⟩:Sl):=fun n=>⟨Row.nil h n,fun a=>absurd rfl a⟩
  ⟨nl 12,nl 7,⟨[],rfl,nl 5,fun p hp=>by simp at hp⟩,nl 5,⟨[],rfl,nl 3,fun p hp=>by simp at hp⟩⟩
theorem Zl7 {h:Zc} {ws:List BL} {n:Nat} {T:TypeId} (c:ws.length=n) (l:n<1000) {cells:List Value} (d:cells=ws.map sV) {K:Sl->HP} (e:∀ x h',Ext h h'->Row h' x 1 (ws.map sV)->inS (fun b=>sz h<=b) x->K x h') :
    newC h cells T fun b a=>K ⟨some ⟨b,0,none⟩,n,n⟩ a:=by
  subst d
  refine YZ fun a f g m=>e _ a g ⟨by simp [c],Aqo _,by show n<_;omega,.inr ⟨h.size,0,rfl,ZdE f fun i v j=>by simpa using j⟩⟩ fun _ b k=>?_
  have:h.size=b:=by simpa [Sl.blk] using k
  have:sz h=h.size:=rfl
  omega
theorem Zuc {h:Zc} {K:Sl->HP} (a:∀ x h',Ext h h'->Row h' x 1 (Zgz.map sV)->inS (fun b=>sz h<=b) x->K x h'):Xk K h:=by
  unfold Xk ZcS
  exact Zl7 (ws:=Zgz) rfl (by decide) (by kernel_rfl) a
theorem Zuh {h:Zc} {K:Sl->HP} (a:∀ x h',Ext h h'->Row h' x 1 (ZgA.map sV)->inS (fun b=>sz h<=b) x->K x h'):Zab K h:=by
  unfold Zab ZeI
  exact Zl7 (ws:=ZgA) rfl (by decide) (by kernel_rfl) a
theorem ZuT {h:Zc} {K:Sl->HP} (a:∀ x h',Ext h h'->Row h' x 1 (ZgH.map sV)->inS (fun b=>sz h<=b) x->K x h'):Zac K h:=by
  unfold Zac ZeJ
  exact Zl7 (ws:=ZgH) rfl (by decide) (by kernel_rfl) a
theorem ZyI {h:Zc} {r c:Option Addr} {w:Sl} {F:Nat} {j k l:TypeId} {K:(Option Addr × Option Addr × Option Addr × Unit)->HP} (m:∀ a c2 c3 h',Ext h h'->sz h<=a->sz h<=c2->sz h<=c3->Box h' a (.pointer r)->Box h' c2 (slV w)->Box h' c3 (.func (.func F) #[] #[.pointer c])->K (At a,At c2,At c3,()) h') :
    newC h [.pointer r] j fun b d=>newC d [.slice w.ptr w.len w.cap] k fun n e=>Y9 (Ye (.func (.func F) #[] #[.pointer c])=true) <| newC e [.func (.func F) #[] #[.pointer c]] l fun o f=>K (some ⟨b,0,none⟩,some ⟨n,0,none⟩,some ⟨o,0,none⟩,()) f:=by
  refine YZ fun d a p q=>YZ fun e c3 i z3=>⟨rfl,YZ fun f c5 g z5=>?_⟩
  have s1:sz h=h.size:=rfl
  exact m h.size d.size e.size f (p.trans (i.trans g)) (by omega) (by omega) (by omega) ⟨_,Zn (Zn a i) g⟩ ⟨_,Zn c3 g⟩ ⟨_,c5⟩
theorem ZCl {h:Zc} {r:Option Addr} {c:Value} {g i:TypeId} (j:Ye c=true) {K:(Option Addr × Option Addr × Unit)->HP} (k:∀ a c2 h',Ext h h'->sz h<=a->sz h<=c2->Box h' a (.pointer r)->Box h' c2 c->K (At a,At c2,()) h') :
    newC h [.pointer r] g fun b d=>Y9 (Ye c=true) <| newC d [c] i fun l e=>K (some ⟨b,0,none⟩,some ⟨l,0,none⟩,()) e:=by
  refine YZ fun d a m n=>⟨j,YZ fun e c3 f z3=>?_⟩
  have s1:sz h=h.size:=rfl
  exact k h.size d.size e (m.trans f) (by omega) (by omega) ⟨_,Zn a f⟩ ⟨_,c3⟩
theorem Zwe {h:Zc} {r b:Option Addr} {w:Sl} {K:(Option Addr × Option Addr × Option Addr × Unit)->HP} (c:∀ a c2 c3 h',Ext h h'->sz h<=a->sz h<=c2->sz h<=c3->Box h' a (.pointer r)->Box h' c2 (slV w)->Box h' c3 (.func (.func 140) #[] #[.pointer b])->K (At a,At c2,At c3,()) h') :
    Z5 r w (b,()) K h:=by
  unfold Z5 YP
  exact ZyI c
theorem Zwd {h:Zc} {r b:Option Addr} {w:Sl} {K:(Option Addr × Option Addr × Option Addr × Unit)->HP} (c:∀ a c2 c3 h',Ext h h'->sz h<=a->sz h<=c2->sz h<=c3->Box h' a (.pointer r)->Box h' c2 (slV w)->Box h' c3 (.func (.func 141) #[] #[.pointer b])->K (At a,At c2,At c3,()) h') :
    Z4 r w (b,()) K h:=by
  unfold Z4 YO
  exact ZyI c
theorem ZrN {h:Zc} {r b:Option Addr} {w:Sl} {K:(Option Addr × Option Addr × Option Addr × Unit)->HP} (c:∀ a c2 c3 h',Ext h h'->sz h<=a->sz h<=c2->sz h<=c3->Box h' a (.pointer r)->Box h' c2 (slV w)->Box h' c3 (.func (.func 142) #[] #[.pointer b])->K (At a,At c2,At c3,()) h') :
    ZW r w (b,()) K h:=by
  unfold ZW YF
  exact ZyI c
theorem ZyJ {h:Zc} {r a b:Option Addr} {K:(Option Addr × Option Addr × Unit)->HP} (d:∀ c c2 h',Ext h h'->sz h<=c->sz h<=c2->Box h' c (.pointer r)->Box h' c2 (.func (.func 143) #[] #[.pointer a,.pointer b])->K (At c,At c2,()) h') :
    Z6 r (a,b,()) K h:=by
  unfold Z6 YQ
  exact ZCl rfl d
theorem Zwf {h:Zc} {r a b:Option Addr} {K:(Option Addr × Option Addr × Unit)->HP} (d:∀ c c2 h',Ext h h'->sz h<=c->sz h<=c2->Box h' c (.pointer r)->Box h' c2 (.func (.func 145) #[] #[.pointer a,.pointer b])->K (At c,At c2,()) h') :
    ZZ r (a,b,()) K h:=by
  unfold ZZ YK
  exact ZCl rfl d
theorem Zr2 {h:Zc} {b:Nat} {z:VT5} {T:TypeId} {f:Nat × Nat} (c:obj h b=some (.cells (Xq z).toArray T f)):Yb h [(b,0,.int .u8 z.1),(b,0+1,.string z.2.1),(b,0+2,.slice z.2.2.1.ptr z.2.2.1.len z.2.2.1.cap),(b,0+3,.slice z.2.2.2.1.ptr z.2.2.2.1.len z.2.2.2.1.cap)]:=by
  refine ⟨?_,?_,?_,?_,trivial⟩<;>rw [Zai]<;>exact Zb c rfl
theorem Zf9 {h:Zc} {b:Nat} {p:Option Addr} (c:Box h b (.pointer p)):Yb h [(b,0,.pointer p)]:=by
  obtain ⟨T,c⟩:=c
  refine ⟨?_,trivial⟩
  rw [Zai]
  exact Zb c rfl
theorem rBl {h:Zc} {b o:Nat} {n:Bool} {K:Bool->Prop} (a:ZbK o (obj h b)=some (.bool n)) (c:K n):ldB h b o K:=by
  unfold ldB
  exact ⟨n,by rw [Zai];exact a,c⟩
def Zgm:MV->Value
  | .t s=>sV s | .n i=>i64 i | .b x=> .bool x | .w i=>i8 i | _=> .nilFunc
theorem Zfu.of {h:Zc} {base:Nat} {v:Value} {x:MV} (a:mk x<4):Zfu h base v x↔v=Zgm x:=by
  cases x<;>first
    | exact Iff.rfl
    | (simp [mk] at a)
theorem Zuk {B:Nat} {T:TypeId} {base:Nat} {m:List MV} {h:Zc} (c:obj h B=some (.cells (m.map Zgm).toArray T (0,0))) (hm:∀ x,x∈m->mk x<4):Zha B T base m h :=
  ⟨_,c,by simp,fun i x a=>⟨Zgm x,by rw [Awz,a];rfl,(Zfu.of (hm x (Axq a))).2 rfl⟩⟩
theorem ZhH {B:Nat} {T:TypeId} {base:Nat} {m:List MV} {h:Zc} (r:Zha B T base m h) (hm:∀ x,x∈m->mk x<4):obj h B=some (.cells (m.map Zgm).toArray T (0,0)):=by
  obtain ⟨vs,c,b,g⟩:=r
  have:vs=m.map Zgm:=by
    refine Awy fun i=>?_
    rw [Awz]
    cases a:m[i]? with
    | none=>rw [Aqt (by rw [b];exact Azt.1 a)];rfl
    | some x =>
      obtain ⟨v,d,e⟩:=g i x a
      rw [d,(Zfu.of (hm x (Axq a))).1 e]
      rfl
  rw [<- this]
  exact c
theorem Zyc {B:Nat} {T:TypeId} {base:Nat} {m:List MV} {y:MV} {h:Zc} {w:Value} (c:obj h B=some (.cells (m.map Zgm++[w]).toArray T (0,0))) (hm:∀ x,x∈m->mk x<4) (e:Zfu h base w y):Zha B T base (m++[y]) h:=by
  refine ⟨_,c,by simp,fun i x a=>?_⟩
  rcases Aqd i m.length with b | b
  ·rw [Awu b] at a
   exact ⟨Zgm x,by rw [Awu (by simpa using b),Awz,a];rfl,(Zfu.of (hm x (Axq a))).2 rfl⟩
  ·rw [Aww b] at a
   have d:i - m.length=0:=by
     have:=(Azl.1 a).1
     simp at this
     omega
   rw [d] at a
   simp at a
   subst a
   exact ⟨w,by rw [Aww (by simpa using b),Ayx,d];rfl,e⟩
theorem ZlP {B:Nat} {T:TypeId} {base:Nat} {m:List MV} {y:MV} {h:Zc} (r:Zha B T base (m++[y]) h) (hm:∀ x,x∈m->mk x<4):∃ w,obj h B=some (.cells (m.map Zgm++[w]).toArray T (0,0))/\Zfu h base w y:=by
  obtain ⟨vs,c,b,g⟩:=r
  obtain ⟨w,d,e⟩:=g m.length y (by simp)
  refine ⟨w,?_,e⟩
  have:vs=m.map Zgm++[w]:=by
    refine Awy fun i=>?_
    rcases Aqd i m.length with a | a
    ·rw [Awu (by simpa using a),Awz,Ayb a]
     obtain ⟨v,f,j⟩:=g i m[i] (by rw [Awu a,Ayb a])
     rw [f,(Zfu.of (hm _ (Azn a))).1 j]
     rfl
    ·rcases Aqd m.length i with k | k
     ·rw [Aqt (by rw [b];simp;omega),Aqt (by simp;omega)]
     ·obtain rfl:i=m.length:=by omega
      rw [d,Aww (by simp)]
      simp
  rw [<- this]
  exact c
def ZBt (f:FlowP):ByteArray × ByteArray × Bool × Int × Int × ByteArray × Int × Int × Int × Bool × Int × Bool × Unit:=(Zj f.res,Zj f.org,f.thr,f.cnt,(f.strat:Int),Zj f.ref,(f.shape:Int),f.warm,f.queue,f.clu,f.id,f.fb,())
def Zvh (f:Yx):ByteArray × Int × Int × Int × Int × Int × Int × Unit:=(Zj f.res,(f.grade:Int),f.cnt,f.slow,f.least,f.window,f.recover,())
def ZFC (x:Sl) (f:Zew):ByteArray × Int × Int × Int × Sl × Unit:=(Zj f.res,f.index,f.cnt,f.secs,x,())
def ZpV (f:Y4):Int × Int × Int × Int × Int × Unit:=(f.qps,f.threads,f.rt,f.load,f.cpu,())
def Zwh (x:Sl) (f:ZaI):ByteArray × Bool × Sl × Unit:=(Zj f.res,f.white,x,())
theorem Ziq {m m0:List MV} (h:m.map mk=m0.map mk):m.map MV.sort=m0.map MV.sort:=by
  have e:mk=MV.sort:=funext ZyH
  rw [e] at h
  exact h
theorem Zzg:∀ a j,Zbh a Zn6 0≠some (j,.items):=fun a j h=>by
  have:=Axq (Y5 h)
  simp [Zn6] at this
theorem Zzf:ZFu Zn6 Zsb:=fun a j k h=>by
  have:=Axq (Y5 h)
  simp only [Zn6,Awr,Prod.mk.injEq,Azk,or_false] at this
  rcases this with ⟨_,rfl⟩ | ⟨_,rfl⟩ | ⟨_,rfl⟩ | ⟨_,rfl⟩ | ⟨_,rfl⟩ | ⟨_,rfl⟩ | ⟨_,rfl⟩ | ⟨_,rfl⟩ | ⟨_,rfl⟩ | ⟨_,rfl⟩ | ⟨_,rfl⟩ | ⟨_,rfl⟩<;>first
    | trivial
    | (show _<=255;decide)
def Yt:Nat->Nat:=fun j=>([6,10,14,18,23,27,32,36,40,44,48,52]:List Nat).getD j 1000
set_option maxRecDepth 4000 in
set_option maxHeartbeats 2000000 in
theorem ZFb {N:Zc} {R:Nat} (er:Er N R 0) (r9:9<=R) (ht:ZaT N) (h9:9<=sz N) {z:VT5} {v:JV} {S:Nat->Prop} (hv:ZaS N S z v) (hS:∀ b,S b->b<sz N/\b≠R) (hw:wV v<=1000000000000) {K:(ByteArray × ByteArray × Bool × Int × Int × ByteArray × Int × Int × Int × Bool × Int × Bool × Unit)->HP}
    (ok:∀ f h',Za0 v = .ok f->Er h' R 0->Upd (· = R) N h'->K (ZBt f) h') (bad:∀ e f h',Za0 v = .error e->e≠0->Er h' R e->Upd (· = R) N h'->K (ZBt f) h'):X1 (At R) z K N:=by
  unfold X1 Zch
  refine YZ fun h1 c1 P z0=>YZ fun O c2 e1 z1=>YZ fun h5 c3 e2 z2=>?_
  have aR:sz N=N.size:=rfl
  have aS:sz h1=h1.size:=rfl
  have aT:sz O=O.size:=rfl
  have aU:sz h5=h5.size:=rfl
  have hR:=er.lt
  have ax:Ext N h1:=P
  have ay:Ext N O:=ax.trans e1
  have az:Ext N h5:=ay.trans e2
  have aA:obj h5 N.size=some (.cells (Xq z).toArray 33 (0,0)):=Zn (Zn c1 e1) e2
  have aB:obj h5 h1.size=some (.cells [.string (ByteArray.mk #[]),.string (ByteArray.mk #[]),.bool false,.int .i64 0,.int .u8 0,.string (ByteArray.mk #[]),.int .u8 0,.int .i64 0,.int .i64 0,.bool false,.int .i64 0,.bool false].toArray 75 (0,0)):=Zn c2 e2
  refine ZfK c3 (by show 12<=12;omega) rfl fun hs cs us zs=>?_
  have aV:sz hs=hs.size:=rfl
  have aC:Ext N hs:=az.updS us fun j hj=>by subst hj;omega
  have cv:obj hs N.size=some (.cells (Xq z).toArray 33 (0,0)):=ZG aA us (by omega)
  have cz:obj hs h1.size=some (.cells [.string (ByteArray.mk #[]),.string (ByteArray.mk #[]),.bool false,.int .i64 0,.int .u8 0,.string (ByteArray.mk #[]),.int .u8 0,.int .i64 0,.int .i64 0,.bool false,.int .i64 0,.bool false].toArray 75 (0,0)):=ZG aB us (by omega)
  have cr:obj hs O.size=some (.cells (Zsb.map Zgm).toArray 75 (0,0)):=cs.trans (by kernel_rfl)
  have aD:∀ x,x∈Zsb->mk x<4:=by decide +kernel
  have U:∀ {h':Zc},Ext hs h'->Yb h' [(N.size,0,.int .u8 z.1),(N.size,0+1,.string z.2.1),(N.size,0+2,.slice z.2.2.1.ptr z.2.2.1.len z.2.2.1.cap),(N.size,0+3,.slice z.2.2.2.1.ptr z.2.2.2.1.len z.2.2.2.1.cap)]:=fun e=>Zr2 (Zn cv e)
  have V:∀ {c:Nat},sz hs<=c->sz N<=c/\c≠O.size:=fun h=>⟨by omega,by omega⟩
  refine rI (Zb cv rfl) (rS (Zb cv rfl) (rL (s:=z.2.2.1) (Zb cv rfl) (rL (s:=z.2.2.2.1) (Zb cv rfl) (?_))))
  refine ZdY (fun d t h=>Lit (YG R O.size (fun b=>sz N<=b/\b≠O.size)) Zn6 2 Yt hs d t.1 h/\(d 5=true->YG R O.size (fun b=>sz N<=b/\b≠O.size) .text 0 (.func (.func 211) #[] #[.pointer t.2.1.1,.pointer t.2.1.2.1]) h)/\(d 9=true->YG R O.size (fun b=>sz N<=b/\b≠O.size) .text 1 (.func (.func 211) #[] #[.pointer t.2.2.1.1,.pointer t.2.2.1.2.1]) h)/\(d 13=true->YG R O.size (fun b=>sz N<=b/\b≠O.size) .yes 2 (.func (.func 212) #[] #[.pointer t.2.2.2.1.1,.pointer t.2.2.2.1.2.1]) h)/\(d 17=true->YG R O.size (fun b=>sz N<=b/\b≠O.size) .num 3 (.func (.func 213) #[] #[.pointer t.2.2.2.2.1.1,.pointer t.2.2.2.2.1.2.1]) h)/\(d 20=true->Row h t.2.2.2.2.2.1 1 (Zgz.map sV)/\inS (fun b=>sz N<=b/\b≠O.size) t.2.2.2.2.2.1)/\(d 22=true->YG R O.size (fun b=>sz N<=b/\b≠O.size) (.word Zgz) 4 (.func (.func 214) #[] #[.pointer t.2.2.2.2.2.2.1.1,.pointer t.2.2.2.2.2.2.1.2.1,.pointer t.2.2.2.2.2.2.1.2.2.1]) h)/\(d 26=true->YG R O.size (fun b=>sz N<=b/\b≠O.size) .text 5 (.func (.func 211) #[] #[.pointer t.2.2.2.2.2.2.2.1.1,.pointer t.2.2.2.2.2.2.2.1.2.1]) h)/\(d 29=true->Row h t.2.2.2.2.2.2.2.2.1 1 (ZgA.map sV)/\inS (fun b=>sz N<=b/\b≠O.size) t.2.2.2.2.2.2.2.2.1)/\(d 31=true->YG R O.size (fun b=>sz N<=b/\b≠O.size) (.word ZgA) 6 (.func (.func 214) #[] #[.pointer t.2.2.2.2.2.2.2.2.2.1.1,.pointer t.2.2.2.2.2.2.2.2.2.1.2.1,.pointer t.2.2.2.2.2.2.2.2.2.1.2.2.1]) h)/\(d 35=true->YG R O.size (fun b=>sz N<=b/\b≠O.size) .num 7 (.func (.func 213) #[] #[.pointer t.2.2.2.2.2.2.2.2.2.2.1.1,.pointer t.2.2.2.2.2.2.2.2.2.2.1.2.1]) h)/\(d 39=true->YG R O.size (fun b=>sz N<=b/\b≠O.size) .num 8 (.func (.func 213) #[] #[.pointer t.2.2.2.2.2.2.2.2.2.2.2.1.1,.pointer t.2.2.2.2.2.2.2.2.2.2.2.1.2.1]) h)/\(d 43=true->YG R O.size (fun b=>sz N<=b/\b≠O.size) .yes 9 (.func (.func 212) #[] #[.pointer t.2.2.2.2.2.2.2.2.2.2.2.2.1.1,.pointer t.2.2.2.2.2.2.2.2.2.2.2.2.1.2.1]) h)/\(d 47=true->YG R O.size (fun b=>sz N<=b/\b≠O.size) .num 10 (.func (.func 213) #[] #[.pointer t.2.2.2.2.2.2.2.2.2.2.2.2.2.1.1,.pointer t.2.2.2.2.2.2.2.2.2.2.2.2.2.1.2.1]) h)/\(d 51=true->YG R O.size (fun b=>sz N<=b/\b≠O.size) .yes 11 (.func (.func 212) #[] #[.pointer t.2.2.2.2.2.2.2.2.2.2.2.2.2.2.1.1,.pointer t.2.2.2.2.2.2.2.2.2.2.2.2.2.2.1.2.1]) h)) (none,(none,none,()),(none,none,()),(none,none,()),(none,none,()),⟨none,0,0⟩,(none,none,none,()),(none,none,()),⟨none,0,0⟩,(none,none,none,()),(none,none,()),(none,none,()),(none,none,()),(none,none,()),(none,none,()),()) ⟨Lit.start _ _,(fun e=>by cases e),(fun e=>by cases e),(fun e=>by cases e),(fun e=>by cases e),(fun e=>by cases e),(fun e=>by cases e),(fun e=>by cases e),(fun e=>by cases e),(fun e=>by cases e),(fun e=>by cases e),(fun e=>by cases e),(fun e=>by cases e),(fun e=>by cases e),(fun e=>by cases e)⟩ ?_ ?_
  ·rintro d ⟨s0,s1,s2,s3,s4,s5,s6,s7,s8,s9,aE,aF,aG,aH,aI,⟨⟩⟩ h ⟨L,X,Y,w,A,p,C,D,q,E,G,H,I,J,M⟩
   refine ⟨?_,?_,?_,?_,?_,?_,?_,?_,?_,?_,?_,?_,?_,?_,?_,?_,?_,?_,?_,?_,?_,?_,?_,?_,?_,?_,?_,trivial⟩
   ·exact fun P=>L.make P (by decide:∀ j,j<12->Yt j≠2) fun mb h' Z l=>⟨U Z.ext,⟨Z,fun e=>(X e).ext l,fun e=>(Y e).ext l,fun e=>(w e).ext l,fun e=>(A e).ext l,fun e=>⟨(p e).1.ext l,(p e).2⟩,fun e=>(C e).ext l,fun e=>(D e).ext l,fun e=>⟨(q e).1.ext l,(q e).2⟩,fun e=>(E e).ext l,fun e=>(G e).ext l,fun e=>(H e).ext l,fun e=>(I e).ext l,fun e=>(J e).ext l,fun e=>(M e).ext l⟩⟩
   ·exact fun P  => Zf3 fun c1 c2 h' l z1 z2 _ _ b1 b2=>⟨U (L.ext.trans l),⟨L.call l (fun g=>g.ext l) (by decide) (by decide:∀ j,j<12->Yt j≠5),fun _=>⟨c1,c2,rfl,⟨V (Aqp L.ext.size z1),V (Aqp L.ext.size z2)⟩,b1,b2⟩,fun e=>(Y e).ext l,fun e=>(w e).ext l,fun e=>(A e).ext l,fun e=>⟨(p e).1.ext l,(p e).2⟩,fun e=>(C e).ext l,fun e=>(D e).ext l,fun e=>⟨(q e).1.ext l,(q e).2⟩,fun e=>(E e).ext l,fun e=>(G e).ext l,fun e=>(H e).ext l,fun e=>(I e).ext l,fun e=>(J e).ext l,fun e=>(M e).ext l⟩⟩
   ·exact fun P a0 Q=>L.put a0 (j:=0) (a:=[114,101,115,111,117,114,99,101]) (k:= .text) (by kernel_rfl) (by decide:∀ i,i<12->Yt i=Yt 0->i=0) rfl (by decide) (X Q) YG.map fun h' Z l o=>⟨U l,⟨Z,fun e=>(X e).map o,fun e=>(Y e).map o,fun e=>(w e).map o,fun e=>(A e).map o,fun e=>⟨Xs o (p e).1,(p e).2⟩,fun e=>(C e).map o,fun e=>(D e).map o,fun e=>⟨Xs o (q e).1,(q e).2⟩,fun e=>(E e).map o,fun e=>(G e).map o,fun e=>(H e).map o,fun e=>(I e).map o,fun e=>(J e).map o,fun e=>(M e).map o⟩⟩
   ·exact fun P a0=>Zf3 fun c1 c2 h' l z1 z2 _ _ b1 b2=>⟨U (L.ext.trans l),⟨L.call l (fun g=>g.ext l) (by decide) (by decide:∀ j,j<12->Yt j≠9),fun e=>(X e).ext l,fun _=>⟨c1,c2,rfl,⟨V (Aqp L.ext.size z1),V (Aqp L.ext.size z2)⟩,b1,b2⟩,fun e=>(w e).ext l,fun e=>(A e).ext l,fun e=>⟨(p e).1.ext l,(p e).2⟩,fun e=>(C e).ext l,fun e=>(D e).ext l,fun e=>⟨(q e).1.ext l,(q e).2⟩,fun e=>(E e).ext l,fun e=>(G e).ext l,fun e=>(H e).ext l,fun e=>(I e).ext l,fun e=>(J e).ext l,fun e=>(M e).ext l⟩⟩
   ·exact fun P a0 Q=>L.put a0 (j:=1) (a:=[111,114,105,103,105,110]) (k:= .text) (by kernel_rfl) (by decide:∀ i,i<12->Yt i=Yt 1->i=1) rfl (by decide) (Y Q) YG.map fun h' Z l o=>⟨U l,⟨Z,fun e=>(X e).map o,fun e=>(Y e).map o,fun e=>(w e).map o,fun e=>(A e).map o,fun e=>⟨Xs o (p e).1,(p e).2⟩,fun e=>(C e).map o,fun e=>(D e).map o,fun e=>⟨Xs o (q e).1,(q e).2⟩,fun e=>(E e).map o,fun e=>(G e).map o,fun e=>(H e).map o,fun e=>(I e).map o,fun e=>(J e).map o,fun e=>(M e).map o⟩⟩
   ·exact fun P a0=>ZlT fun c1 c2 h' l z1 z2 _ _ b1 b2=>⟨U (L.ext.trans l),⟨L.call l (fun g=>g.ext l) (by decide) (by decide:∀ j,j<12->Yt j≠13),fun e=>(X e).ext l,fun e=>(Y e).ext l,fun _=>⟨c1,c2,rfl,⟨V (Aqp L.ext.size z1),V (Aqp L.ext.size z2)⟩,b1,b2⟩,fun e=>(A e).ext l,fun e=>⟨(p e).1.ext l,(p e).2⟩,fun e=>(C e).ext l,fun e=>(D e).ext l,fun e=>⟨(q e).1.ext l,(q e).2⟩,fun e=>(E e).ext l,fun e=>(G e).ext l,fun e=>(H e).ext l,fun e=>(I e).ext l,fun e=>(J e).ext l,fun e=>(M e).ext l⟩⟩
   ·exact fun P a0 Q=>L.put a0 (j:=2) (a:=[116,104,114,101,97,100,115]) (k:= .yes) (by kernel_rfl) (by decide:∀ i,i<12->Yt i=Yt 2->i=2) rfl (by decide) (w Q) YG.map fun h' Z l o=>⟨U l,⟨Z,fun e=>(X e).map o,fun e=>(Y e).map o,fun e=>(w e).map o,fun e=>(A e).map o,fun e=>⟨Xs o (p e).1,(p e).2⟩,fun e=>(C e).map o,fun e=>(D e).map o,fun e=>⟨Xs o (q e).1,(q e).2⟩,fun e=>(E e).map o,fun e=>(G e).map o,fun e=>(H e).map o,fun e=>(I e).map o,fun e=>(J e).map o,fun e=>(M e).map o⟩⟩
   ·exact fun P a0=>Y6 fun c1 c2 h' l z1 z2 _ _ b1 b2=>⟨U (L.ext.trans l),⟨L.call l (fun g=>g.ext l) (by decide) (by decide:∀ j,j<12->Yt j≠17),fun e=>(X e).ext l,fun e=>(Y e).ext l,fun e=>(w e).ext l,fun _=>⟨c1,c2,rfl,⟨V (Aqp L.ext.size z1),V (Aqp L.ext.size z2)⟩,b1,b2⟩,fun e=>⟨(p e).1.ext l,(p e).2⟩,fun e=>(C e).ext l,fun e=>(D e).ext l,fun e=>⟨(q e).1.ext l,(q e).2⟩,fun e=>(E e).ext l,fun e=>(G e).ext l,fun e=>(H e).ext l,fun e=>(I e).ext l,fun e=>(J e).ext l,fun e=>(M e).ext l⟩⟩
   ·exact fun P a0 Q=>L.put a0 (j:=3) (a:=[99,111,117,110,116]) (k:= .num) (by kernel_rfl) (by decide:∀ i,i<12->Yt i=Yt 3->i=3) rfl (by decide) (A Q) YG.map fun h' Z l o=>⟨U l,⟨Z,fun e=>(X e).map o,fun e=>(Y e).map o,fun e=>(w e).map o,fun e=>(A e).map o,fun e=>⟨Xs o (p e).1,(p e).2⟩,fun e=>(C e).map o,fun e=>(D e).map o,fun e=>⟨Xs o (q e).1,(q e).2⟩,fun e=>(E e).map o,fun e=>(G e).map o,fun e=>(H e).map o,fun e=>(I e).map o,fun e=>(J e).map o,fun e=>(M e).map o⟩⟩
   ·exact fun P a0=>Zuc fun x h' l r' i'=>⟨U (L.ext.trans l),⟨L.call l (fun g=>g.ext l) (by decide) (by decide:∀ j,j<12->Yt j≠20),fun e=>(X e).ext l,fun e=>(Y e).ext l,fun e=>(w e).ext l,fun e=>(A e).ext l,fun _=>⟨r',fun y b hb=>V (Aqp L.ext.size (i' y b hb))⟩,fun e=>(C e).ext l,fun e=>(D e).ext l,fun e=>⟨(q e).1.ext l,(q e).2⟩,fun e=>(E e).ext l,fun e=>(G e).ext l,fun e=>(H e).ext l,fun e=>(I e).ext l,fun e=>(J e).ext l,fun e=>(M e).ext l⟩⟩
   ·exact fun P a0 Q=>Zwe fun c1 c2 c3 h' l z1 z2 z3 b1 b2 b3=>⟨U (L.ext.trans l),⟨L.call l (fun g=>g.ext l) (by decide) (by decide:∀ j,j<12->Yt j≠22),fun e=>(X e).ext l,fun e=>(Y e).ext l,fun e=>(w e).ext l,fun e=>(A e).ext l,fun e=>⟨(p e).1.ext l,(p e).2⟩,fun _=>⟨c1,c2,c3,_,_,rfl,⟨V (Aqp L.ext.size z1),V (Aqp L.ext.size z2),V (Aqp L.ext.size z3)⟩,b1,b2,⟨(p Q).1.ext l,(p Q).2⟩,.inl ⟨rfl,rfl⟩,b3⟩,fun e=>(D e).ext l,fun e=>⟨(q e).1.ext l,(q e).2⟩,fun e=>(E e).ext l,fun e=>(G e).ext l,fun e=>(H e).ext l,fun e=>(I e).ext l,fun e=>(J e).ext l,fun e=>(M e).ext l⟩⟩
   ·exact fun P a0 Q=>L.put a0 (j:=4) (a:=[115,116,114,97,116,101,103,121]) (k:=(.word Zgz)) (by kernel_rfl) (by decide:∀ i,i<12->Yt i=Yt 4->i=4) rfl (by decide) (C Q) YG.map fun h' Z l o=>⟨U l,⟨Z,fun e=>(X e).map o,fun e=>(Y e).map o,fun e=>(w e).map o,fun e=>(A e).map o,fun e=>⟨Xs o (p e).1,(p e).2⟩,fun e=>(C e).map o,fun e=>(D e).map o,fun e=>⟨Xs o (q e).1,(q e).2⟩,fun e=>(E e).map o,fun e=>(G e).map o,fun e=>(H e).map o,fun e=>(I e).map o,fun e=>(J e).map o,fun e=>(M e).map o⟩⟩
   ·exact fun P a0=>Zf3 fun c1 c2 h' l z1 z2 _ _ b1 b2=>⟨U (L.ext.trans l),⟨L.call l (fun g=>g.ext l) (by decide) (by decide:∀ j,j<12->Yt j≠26),fun e=>(X e).ext l,fun e=>(Y e).ext l,fun e=>(w e).ext l,fun e=>(A e).ext l,fun e=>⟨(p e).1.ext l,(p e).2⟩,fun e=>(C e).ext l,fun _=>⟨c1,c2,rfl,⟨V (Aqp L.ext.size z1),V (Aqp L.ext.size z2)⟩,b1,b2⟩,fun e=>⟨(q e).1.ext l,(q e).2⟩,fun e=>(E e).ext l,fun e=>(G e).ext l,fun e=>(H e).ext l,fun e=>(I e).ext l,fun e=>(J e).ext l,fun e=>(M e).ext l⟩⟩
   ·exact fun P a0 Q=>L.put a0 (j:=5) (a:=[114,101,102]) (k:= .text) (by kernel_rfl) (by decide:∀ i,i<12->Yt i=Yt 5->i=5) rfl (by decide) (D Q) YG.map fun h' Z l o=>⟨U l,⟨Z,fun e=>(X e).map o,fun e=>(Y e).map o,fun e=>(w e).map o,fun e=>(A e).map o,fun e=>⟨Xs o (p e).1,(p e).2⟩,fun e=>(C e).map o,fun e=>(D e).map o,fun e=>⟨Xs o (q e).1,(q e).2⟩,fun e=>(E e).map o,fun e=>(G e).map o,fun e=>(H e).map o,fun e=>(I e).map o,fun e=>(J e).map o,fun e=>(M e).map o⟩⟩
   ·exact fun P a0=>Zuh fun x h' l r' i'=>⟨U (L.ext.trans l),⟨L.call l (fun g=>g.ext l) (by decide) (by decide:∀ j,j<12->Yt j≠29),fun e=>(X e).ext l,fun e=>(Y e).ext l,fun e=>(w e).ext l,fun e=>(A e).ext l,fun e=>⟨(p e).1.ext l,(p e).2⟩,fun e=>(C e).ext l,fun e=>(D e).ext l,fun _=>⟨r',fun y b hb=>V (Aqp L.ext.size (i' y b hb))⟩,fun e=>(E e).ext l,fun e=>(G e).ext l,fun e=>(H e).ext l,fun e=>(I e).ext l,fun e=>(J e).ext l,fun e=>(M e).ext l⟩⟩
   ·exact fun P a0 Q=>Zwd fun c1 c2 c3 h' l z1 z2 z3 b1 b2 b3=>⟨U (L.ext.trans l),⟨L.call l (fun g=>g.ext l) (by decide) (by decide:∀ j,j<12->Yt j≠31),fun e=>(X e).ext l,fun e=>(Y e).ext l,fun e=>(w e).ext l,fun e=>(A e).ext l,fun e=>⟨(p e).1.ext l,(p e).2⟩,fun e=>(C e).ext l,fun e=>(D e).ext l,fun e=>⟨(q e).1.ext l,(q e).2⟩,fun _=>⟨c1,c2,c3,_,_,rfl,⟨V (Aqp L.ext.size z1),V (Aqp L.ext.size z2),V (Aqp L.ext.size z3)⟩,b1,b2,⟨(q Q).1.ext l,(q Q).2⟩,.inr (.inl ⟨rfl,rfl⟩),b3⟩,fun e=>(G e).ext l,fun e=>(H e).ext l,fun e=>(I e).ext l,fun e=>(J e).ext l,fun e=>(M e).ext l⟩⟩
   ·exact fun P a0 Q=>L.put a0 (j:=6) (a:=[115,104,97,112,101]) (k:=(.word ZgA)) (by kernel_rfl) (by decide:∀ i,i<12->Yt i=Yt 6->i=6) rfl (by decide) (E Q) YG.map fun h' Z l o=>⟨U l,⟨Z,fun e=>(X e).map o,fun e=>(Y e).map o,fun e=>(w e).map o,fun e=>(A e).map o,fun e=>⟨Xs o (p e).1,(p e).2⟩,fun e=>(C e).map o,fun e=>(D e).map o,fun e=>⟨Xs o (q e).1,(q e).2⟩,fun e=>(E e).map o,fun e=>(G e).map o,fun e=>(H e).map o,fun e=>(I e).map o,fun e=>(J e).map o,fun e=>(M e).map o⟩⟩
   ·exact fun P a0=>Y6 fun c1 c2 h' l z1 z2 _ _ b1 b2=>⟨U (L.ext.trans l),⟨L.call l (fun g=>g.ext l) (by decide) (by decide:∀ j,j<12->Yt j≠35),fun e=>(X e).ext l,fun e=>(Y e).ext l,fun e=>(w e).ext l,fun e=>(A e).ext l,fun e=>⟨(p e).1.ext l,(p e).2⟩,fun e=>(C e).ext l,fun e=>(D e).ext l,fun e=>⟨(q e).1.ext l,(q e).2⟩,fun e=>(E e).ext l,fun _=>⟨c1,c2,rfl,⟨V (Aqp L.ext.size z1),V (Aqp L.ext.size z2)⟩,b1,b2⟩,fun e=>(H e).ext l,fun e=>(I e).ext l,fun e=>(J e).ext l,fun e=>(M e).ext l⟩⟩
   ·exact fun P a0 Q=>L.put a0 (j:=7) (a:=[119,97,114,109]) (k:= .num) (by kernel_rfl) (by decide:∀ i,i<12->Yt i=Yt 7->i=7) rfl (by decide) (G Q) YG.map fun h' Z l o=>⟨U l,⟨Z,fun e=>(X e).map o,fun e=>(Y e).map o,fun e=>(w e).map o,fun e=>(A e).map o,fun e=>⟨Xs o (p e).1,(p e).2⟩,fun e=>(C e).map o,fun e=>(D e).map o,fun e=>⟨Xs o (q e).1,(q e).2⟩,fun e=>(E e).map o,fun e=>(G e).map o,fun e=>(H e).map o,fun e=>(I e).map o,fun e=>(J e).map o,fun e=>(M e).map o⟩⟩
   ·exact fun P a0=>Y6 fun c1 c2 h' l z1 z2 _ _ b1 b2=>⟨U (L.ext.trans l),⟨L.call l (fun g=>g.ext l) (by decide) (by decide:∀ j,j<12->Yt j≠39),fun e=>(X e).ext l,fun e=>(Y e).ext l,fun e=>(w e).ext l,fun e=>(A e).ext l,fun e=>⟨(p e).1.ext l,(p e).2⟩,fun e=>(C e).ext l,fun e=>(D e).ext l,fun e=>⟨(q e).1.ext l,(q e).2⟩,fun e=>(E e).ext l,fun e=>(G e).ext l,fun _=>⟨c1,c2,rfl,⟨V (Aqp L.ext.size z1),V (Aqp L.ext.size z2)⟩,b1,b2⟩,fun e=>(I e).ext l,fun e=>(J e).ext l,fun e=>(M e).ext l⟩⟩
   ·exact fun P a0 Q=>L.put a0 (j:=8) (a:=[113,117,101,117,101]) (k:= .num) (by kernel_rfl) (by decide:∀ i,i<12->Yt i=Yt 8->i=8) rfl (by decide) (H Q) YG.map fun h' Z l o=>⟨U l,⟨Z,fun e=>(X e).map o,fun e=>(Y e).map o,fun e=>(w e).map o,fun e=>(A e).map o,fun e=>⟨Xs o (p e).1,(p e).2⟩,fun e=>(C e).map o,fun e=>(D e).map o,fun e=>⟨Xs o (q e).1,(q e).2⟩,fun e=>(E e).map o,fun e=>(G e).map o,fun e=>(H e).map o,fun e=>(I e).map o,fun e=>(J e).map o,fun e=>(M e).map o⟩⟩
   ·exact fun P a0=>ZlT fun c1 c2 h' l z1 z2 _ _ b1 b2=>⟨U (L.ext.trans l),⟨L.call l (fun g=>g.ext l) (by decide) (by decide:∀ j,j<12->Yt j≠43),fun e=>(X e).ext l,fun e=>(Y e).ext l,fun e=>(w e).ext l,fun e=>(A e).ext l,fun e=>⟨(p e).1.ext l,(p e).2⟩,fun e=>(C e).ext l,fun e=>(D e).ext l,fun e=>⟨(q e).1.ext l,(q e).2⟩,fun e=>(E e).ext l,fun e=>(G e).ext l,fun e=>(H e).ext l,fun _=>⟨c1,c2,rfl,⟨V (Aqp L.ext.size z1),V (Aqp L.ext.size z2)⟩,b1,b2⟩,fun e=>(J e).ext l,fun e=>(M e).ext l⟩⟩
   ·exact fun P a0 Q=>L.put a0 (j:=9) (a:=[99,108,117,115,116,101,114]) (k:= .yes) (by kernel_rfl) (by decide:∀ i,i<12->Yt i=Yt 9->i=9) rfl (by decide) (I Q) YG.map fun h' Z l o=>⟨U l,⟨Z,fun e=>(X e).map o,fun e=>(Y e).map o,fun e=>(w e).map o,fun e=>(A e).map o,fun e=>⟨Xs o (p e).1,(p e).2⟩,fun e=>(C e).map o,fun e=>(D e).map o,fun e=>⟨Xs o (q e).1,(q e).2⟩,fun e=>(E e).map o,fun e=>(G e).map o,fun e=>(H e).map o,fun e=>(I e).map o,fun e=>(J e).map o,fun e=>(M e).map o⟩⟩
   ·exact fun P a0=>Y6 fun c1 c2 h' l z1 z2 _ _ b1 b2=>⟨U (L.ext.trans l),⟨L.call l (fun g=>g.ext l) (by decide) (by decide:∀ j,j<12->Yt j≠47),fun e=>(X e).ext l,fun e=>(Y e).ext l,fun e=>(w e).ext l,fun e=>(A e).ext l,fun e=>⟨(p e).1.ext l,(p e).2⟩,fun e=>(C e).ext l,fun e=>(D e).ext l,fun e=>⟨(q e).1.ext l,(q e).2⟩,fun e=>(E e).ext l,fun e=>(G e).ext l,fun e=>(H e).ext l,fun e=>(I e).ext l,fun _=>⟨c1,c2,rfl,⟨V (Aqp L.ext.size z1),V (Aqp L.ext.size z2)⟩,b1,b2⟩,fun e=>(M e).ext l⟩⟩
   ·exact fun P a0 Q=>L.put a0 (j:=10) (a:=[105,100]) (k:= .num) (by kernel_rfl) (by decide:∀ i,i<12->Yt i=Yt 10->i=10) rfl (by decide) (J Q) YG.map fun h' Z l o=>⟨U l,⟨Z,fun e=>(X e).map o,fun e=>(Y e).map o,fun e=>(w e).map o,fun e=>(A e).map o,fun e=>⟨Xs o (p e).1,(p e).2⟩,fun e=>(C e).map o,fun e=>(D e).map o,fun e=>⟨Xs o (q e).1,(q e).2⟩,fun e=>(E e).map o,fun e=>(G e).map o,fun e=>(H e).map o,fun e=>(I e).map o,fun e=>(J e).map o,fun e=>(M e).map o⟩⟩
   ·exact fun P a0=>ZlT fun c1 c2 h' l z1 z2 _ _ b1 b2=>⟨U (L.ext.trans l),⟨L.call l (fun g=>g.ext l) (by decide) (by decide:∀ j,j<12->Yt j≠51),fun e=>(X e).ext l,fun e=>(Y e).ext l,fun e=>(w e).ext l,fun e=>(A e).ext l,fun e=>⟨(p e).1.ext l,(p e).2⟩,fun e=>(C e).ext l,fun e=>(D e).ext l,fun e=>⟨(q e).1.ext l,(q e).2⟩,fun e=>(E e).ext l,fun e=>(G e).ext l,fun e=>(H e).ext l,fun e=>(I e).ext l,fun e=>(J e).ext l,fun _=>⟨c1,c2,rfl,⟨V (Aqp L.ext.size z1),V (Aqp L.ext.size z2)⟩,b1,b2⟩⟩⟩
   ·exact fun P a0 Q=>L.put a0 (j:=11) (a:=[102,97,108,108,98,97,99,107]) (k:= .yes) (by kernel_rfl) (by decide:∀ i,i<12->Yt i=Yt 11->i=11) rfl (by decide) (M Q) YG.map fun h' Z l o=>⟨U l,⟨Z,fun e=>(X e).map o,fun e=>(Y e).map o,fun e=>(w e).map o,fun e=>(A e).map o,fun e=>⟨Xs o (p e).1,(p e).2⟩,fun e=>(C e).map o,fun e=>(D e).map o,fun e=>⟨Xs o (q e).1,(q e).2⟩,fun e=>(E e).map o,fun e=>(G e).map o,fun e=>(H e).map o,fun e=>(I e).map o,fun e=>(J e).map o,fun e=>(M e).map o⟩⟩
  ·rintro d ⟨s0,s1,s2,s3,s4,s5,s6,s7,s8,s9,aE,aF,aG,aH,aI,⟨⟩⟩ h ⟨L,X,Y,w,A,p,C,D,q,E,G,H,I,J,M⟩
   intro d2 d5 d6 d9 d10 d13 d14 d17 d18 d20 d22 d23 d26 d27 d29 d31 d32 d35 d36 d39 d40 d43 d44 d47 d48 d51 d52
   refine ⟨U L.ext,?_⟩
   obtain ⟨mb,f,n,cls,rfl,bp,hm,hf,hG⟩:=L.all d2 (fun j hj=>match j,hj with
     | 0,_=>d6
     | 1,_=>d10
     | 2,_=>d14
     | 3,_=>d18
     | 4,_=>d23
     | 5,_=>d27
     | 6,_=>d32
     | 7,_=>d36
     | 8,_=>d40
     | 9,_=>d44
     | 10,_=>d48
     | 11,_=>d52
     | k+12,hj=>absurd hj (Azu.2 (Azv 12 k)))
   have hh:Ext N h:=aC.trans L.ext
   have bs:sz hs<=sz h:=L.ext.size
   have aM:=Zn cr L.ext
   have aq:=Zn cz L.ext
   refine ⟨1,?_⟩
   refine ZoR (f165:=ZH 0) (F:=Zn6) (m0:=Zsb) (S:=S) (B:=O.size) (T:=75) (W:=fun b=>sz N<=b/\b≠O.size) (.inl Zzg) rfl Zzf (er.ext hh) (Zuk aM aD) (by omega) (fun b hb=>⟨by omega,hb.2⟩) r9 (by omega) hm hf ⟨by omega,by omega⟩ hG (ht.ext hh)
     (hv.keep (fun b _ hl=>Zu hh hl) fun _ h=>h) (fun b hb=>by obtain ⟨y1,y2⟩:=hS b hb;exact ⟨by omega,y2,by omega⟩) hw (fun m h' hq hs r l u=>?_) fun e m h' hq hn hs r l u=>?_
   ·have em:m=(Zkx m).mv:=Zty (Ziq hs)
    obtain ⟨f,hf⟩:∃ f,f=Zkx m:=⟨_,rfl⟩
    rw [<- hf] at em
    rw [em] at r
    have c:=ZhH r (by intro y hy;simp only [FlowP.mv,Awr,Azk,or_false] at hy;rcases hy with rfl | rfl | rfl | rfl | rfl | rfl | rfl | rfl | rfl | rfl | rfl | rfl<;>(show (_:Nat)<4;simp [mk]))
    have ah:=ZG aq u (by rintro (e | e | e)<;>omega)
    have aO:sz h<=sz h':=u.size
    refine rS (Zb c rfl) (rS (Zb c rfl) (rBl (Zb c rfl) (rI (Zb c rfl) (rI (Zb c rfl) (rS (Zb c rfl) (rI (Zb c rfl) (rI (Zb c rfl) (rI (Zb c rfl) (rBl (Zb c rfl) (rI (Zb c rfl) (rBl (Zb c rfl) (ZfK ah (by show 12<=12;omega) rfl fun h2 c2 u2 z2=>rS (Zb c2 rfl) (rS (Zb c2 rfl) (rBl (Zb c2 rfl) (rI (Zb c2 rfl) (rI (Zb c2 rfl) (rS (Zb c2 rfl) (rI (Zb c2 rfl) (rI (Zb c2 rfl) (rI (Zb c2 rfl) (rBl (Zb c2 rfl) (rI (Zb c2 rfl) (rBl (Zb c2 rfl) (ok f h2 ?_ ?_ ?_))))))))))))))))))))))))
    ·exact by unfold Za0;rw [hq,hf];rfl
    ·exact l.upd u2 fun e=>by omega
    ·exact UT (UT (hh.upd _) u fun k hk=>by rcases hk with e | e | e<;>omega) u2 fun k hk=> .inr (by omega)
   ·have em:m=(Zkx m).mv:=Zty (Ziq hs)
    obtain ⟨f,hf⟩:∃ f,f=Zkx m:=⟨_,rfl⟩
    rw [<- hf] at em
    rw [em] at r
    have c:=ZhH r (by intro y hy;simp only [FlowP.mv,Awr,Azk,or_false] at hy;rcases hy with rfl | rfl | rfl | rfl | rfl | rfl | rfl | rfl | rfl | rfl | rfl | rfl<;>(show (_:Nat)<4;simp [mk]))
    have ah:=ZG aq u (by rintro (e | e | e)<;>omega)
    have aO:sz h<=sz h':=u.size
    refine rS (Zb c rfl) (rS (Zb c rfl) (rBl (Zb c rfl) (rI (Zb c rfl) (rI (Zb c rfl) (rS (Zb c rfl) (rI (Zb c rfl) (rI (Zb c rfl) (rI (Zb c rfl) (rBl (Zb c rfl) (rI (Zb c rfl) (rBl (Zb c rfl) (ZfK ah (by show 12<=12;omega) rfl fun h2 c2 u2 z2=>rS (Zb c2 rfl) (rS (Zb c2 rfl) (rBl (Zb c2 rfl) (rI (Zb c2 rfl) (rI (Zb c2 rfl) (rS (Zb c2 rfl) (rI (Zb c2 rfl) (rI (Zb c2 rfl) (rI (Zb c2 rfl) (rBl (Zb c2 rfl) (rI (Zb c2 rfl) (rBl (Zb c2 rfl) (bad e f h2 ?_ hn ?_ ?_))))))))))))))))))))))))
    ·exact by unfold Za0;rw [hq];rfl
    ·exact l.upd u2 fun e=>by omega
    ·exact UT (UT (hh.upd _) u fun k hk=>by rcases hk with e | e | e<;>omega) u2 fun k hk=> .inr (by omega)
theorem ZwA:∀ a j,Zbh a Zjr 0≠some (j,.items):=fun a j h=>by
  have:=Axq (Y5 h)
  simp [Zjr] at this
theorem Zwz:ZFu Zjr Zlw:=fun a j k h=>by
  have:=Axq (Y5 h)
  simp only [Zjr,Awr,Prod.mk.injEq,Azk,or_false] at this
  rcases this with ⟨_,rfl⟩ | ⟨_,rfl⟩ | ⟨_,rfl⟩ | ⟨_,rfl⟩ | ⟨_,rfl⟩ | ⟨_,rfl⟩ | ⟨_,rfl⟩<;>first
    | trivial
    | (show _<=255;decide)
def Y8:Nat->Nat:=fun j=>([6,11,15,19,23,27,31]:List Nat).getD j 1000
set_option maxRecDepth 4000 in
set_option maxHeartbeats 2000000 in
theorem ZBK {G:Zc} {R:Nat} (er:Er G R 0) (r9:9<=R) (ht:ZaT G) (h9:9<=sz G) {z:VT5} {v:JV} {S:Nat->Prop} (hv:ZaS G S z v) (hS:∀ b,S b->b<sz G/\b≠R) (hw:wV v<=1000000000000) {K:(ByteArray × Int × Int × Int × Int × Int × Int × Unit)->HP}
    (ok:∀ f h',Zal v = .ok f->Er h' R 0->Upd (· = R) G h'->K (Zvh f) h') (bad:∀ e f h',Zal v = .error e->e≠0->Er h' R e->Upd (· = R) G h'->K (Zvh f) h'):XI (At R) z K G:=by
  unfold XI ZbA
  refine YZ fun h1 Q I z0=>YZ fun H c2 e1 U=>YZ fun Y c3 e2 z2=>?_
  have aC:sz G=G.size:=rfl
  have aD:sz h1=h1.size:=rfl
  have aE:sz H=H.size:=rfl
  have aF:sz Y=Y.size:=rfl
  have hR:=er.lt
  have al:Ext G h1:=I
  have an:Ext G H:=al.trans e1
  have ao:Ext G Y:=an.trans e2
  have aq:obj Y G.size=some (.cells (Xq z).toArray 33 (0,0)):=Zn (Zn Q e1) e2
  have ar:obj Y h1.size=some (.cells [.string (ByteArray.mk #[]),.int .u8 0,.int .i64 0,.int .i64 0,.int .i64 0,.int .i64 0,.int .i64 0].toArray 80 (0,0)):=Zn c2 e2
  have cv:=aq
  have cz:=ar
  have cr:obj Y H.size=some (.cells (Zlw.map Zgm).toArray 80 (0,0)):=c3.trans (by kernel_rfl)
  have au:∀ x,x∈Zlw->mk x<4:=by decide +kernel
  have J:∀ {h':Zc},Ext Y h'->Yb h' [(G.size,0,.int .u8 z.1),(G.size,0+1,.string z.2.1),(G.size,0+2,.slice z.2.2.1.ptr z.2.2.1.len z.2.2.1.cap),(G.size,0+3,.slice z.2.2.2.1.ptr z.2.2.2.1.len z.2.2.2.1.cap)]:=fun e=>Zr2 (Zn cv e)
  have N:∀ {c:Nat},sz Y<=c->sz G<=c/\c≠H.size:=fun h=>⟨by omega,by omega⟩
  refine rI (Zb cv rfl) (rS (Zb cv rfl) (rL (s:=z.2.2.1) (Zb cv rfl) (rL (s:=z.2.2.2.1) (Zb cv rfl) (?_))))
  refine ZdY (fun d t h=>Lit (YG R H.size (fun b=>sz G<=b/\b≠H.size)) Zjr 2 Y8 Y d t.1 h/\(d 5=true->YG R H.size (fun b=>sz G<=b/\b≠H.size) .text 0 (.func (.func 211) #[] #[.pointer t.2.1.1,.pointer t.2.1.2.1]) h)/\(d 8=true->Row h t.2.2.1 1 (ZgH.map sV)/\inS (fun b=>sz G<=b/\b≠H.size) t.2.2.1)/\(d 10=true->YG R H.size (fun b=>sz G<=b/\b≠H.size) (.word ZgH) 1 (.func (.func 214) #[] #[.pointer t.2.2.2.1.1,.pointer t.2.2.2.1.2.1,.pointer t.2.2.2.1.2.2.1]) h)/\(d 14=true->YG R H.size (fun b=>sz G<=b/\b≠H.size) .num 2 (.func (.func 213) #[] #[.pointer t.2.2.2.2.1.1,.pointer t.2.2.2.2.1.2.1]) h)/\(d 18=true->YG R H.size (fun b=>sz G<=b/\b≠H.size) .num 3 (.func (.func 213) #[] #[.pointer t.2.2.2.2.2.1.1,.pointer t.2.2.2.2.2.1.2.1]) h)/\(d 22=true->YG R H.size (fun b=>sz G<=b/\b≠H.size) .num 4 (.func (.func 213) #[] #[.pointer t.2.2.2.2.2.2.1.1,.pointer t.2.2.2.2.2.2.1.2.1]) h)/\(d 26=true->YG R H.size (fun b=>sz G<=b/\b≠H.size) .num 5 (.func (.func 213) #[] #[.pointer t.2.2.2.2.2.2.2.1.1,.pointer t.2.2.2.2.2.2.2.1.2.1]) h)/\(d 30=true->YG R H.size (fun b=>sz G<=b/\b≠H.size) .num 6 (.func (.func 213) #[] #[.pointer t.2.2.2.2.2.2.2.2.1.1,.pointer t.2.2.2.2.2.2.2.2.1.2.1]) h)) (none,(none,none,()),⟨none,0,0⟩,(none,none,none,()),(none,none,()),(none,none,()),(none,none,()),(none,none,()),(none,none,()),()) ⟨Lit.start _ _,(fun e=>by cases e),(fun e=>by cases e),(fun e=>by cases e),(fun e=>by cases e),(fun e=>by cases e),(fun e=>by cases e),(fun e=>by cases e),(fun e=>by cases e)⟩ ?_ ?_
  ·rintro d ⟨s0,s1,s2,s3,s4,s5,s6,s7,s8,⟨⟩⟩ h ⟨L,M,E,p,q,w,A,C,D⟩
   refine ⟨?_,?_,?_,?_,?_,?_,?_,?_,?_,?_,?_,?_,?_,?_,?_,?_,trivial⟩
   ·exact fun I=>L.make I (by decide:∀ j,j<7->Y8 j≠2) fun mb h' O l=>⟨J O.ext,⟨O,fun e=>(M e).ext l,fun e=>⟨(E e).1.ext l,(E e).2⟩,fun e=>(p e).ext l,fun e=>(q e).ext l,fun e=>(w e).ext l,fun e=>(A e).ext l,fun e=>(C e).ext l,fun e=>(D e).ext l⟩⟩
   ·exact fun I  => Zf3 fun Q c2 h' l U z2 _ _ V X=>⟨J (L.ext.trans l),⟨L.call l (fun g=>g.ext l) (by decide) (by decide:∀ j,j<7->Y8 j≠5),fun _=>⟨Q,c2,rfl,⟨N (Aqp L.ext.size U),N (Aqp L.ext.size z2)⟩,V,X⟩,fun e=>⟨(E e).1.ext l,(E e).2⟩,fun e=>(p e).ext l,fun e=>(q e).ext l,fun e=>(w e).ext l,fun e=>(A e).ext l,fun e=>(C e).ext l,fun e=>(D e).ext l⟩⟩
   ·exact fun I a0 P=>L.put a0 (j:=0) (a:=[114,101,115,111,117,114,99,101]) (k:= .text) (by kernel_rfl) (by decide:∀ i,i<7->Y8 i=Y8 0->i=0) rfl (by decide) (M P) YG.map fun h' O l o=>⟨J l,⟨O,fun e=>(M e).map o,fun e=>⟨Xs o (E e).1,(E e).2⟩,fun e=>(p e).map o,fun e=>(q e).map o,fun e=>(w e).map o,fun e=>(A e).map o,fun e=>(C e).map o,fun e=>(D e).map o⟩⟩
   ·exact fun I a0=>ZuT fun x h' l r' i'=>⟨J (L.ext.trans l),⟨L.call l (fun g=>g.ext l) (by decide) (by decide:∀ j,j<7->Y8 j≠8),fun e=>(M e).ext l,fun _=>⟨r',fun y b hb=>N (Aqp L.ext.size (i' y b hb))⟩,fun e=>(p e).ext l,fun e=>(q e).ext l,fun e=>(w e).ext l,fun e=>(A e).ext l,fun e=>(C e).ext l,fun e=>(D e).ext l⟩⟩
   ·exact fun I a0 P=>ZrN fun Q c2 c3 h' l U z2 z3 V X b3=>⟨J (L.ext.trans l),⟨L.call l (fun g=>g.ext l) (by decide) (by decide:∀ j,j<7->Y8 j≠10),fun e=>(M e).ext l,fun e=>⟨(E e).1.ext l,(E e).2⟩,fun _=>⟨Q,c2,c3,_,_,rfl,⟨N (Aqp L.ext.size U),N (Aqp L.ext.size z2),N (Aqp L.ext.size z3)⟩,V,X,⟨(E P).1.ext l,(E P).2⟩,.inr (.inr ⟨rfl,rfl⟩),b3⟩,fun e=>(q e).ext l,fun e=>(w e).ext l,fun e=>(A e).ext l,fun e=>(C e).ext l,fun e=>(D e).ext l⟩⟩
   ·exact fun I a0 P=>L.put a0 (j:=1) (a:=[103,114,97,100,101]) (k:=(.word ZgH)) (by kernel_rfl) (by decide:∀ i,i<7->Y8 i=Y8 1->i=1) rfl (by decide) (p P) YG.map fun h' O l o=>⟨J l,⟨O,fun e=>(M e).map o,fun e=>⟨Xs o (E e).1,(E e).2⟩,fun e=>(p e).map o,fun e=>(q e).map o,fun e=>(w e).map o,fun e=>(A e).map o,fun e=>(C e).map o,fun e=>(D e).map o⟩⟩
   ·exact fun I a0=>Y6 fun Q c2 h' l U z2 _ _ V X=>⟨J (L.ext.trans l),⟨L.call l (fun g=>g.ext l) (by decide) (by decide:∀ j,j<7->Y8 j≠14),fun e=>(M e).ext l,fun e=>⟨(E e).1.ext l,(E e).2⟩,fun e=>(p e).ext l,fun _=>⟨Q,c2,rfl,⟨N (Aqp L.ext.size U),N (Aqp L.ext.size z2)⟩,V,X⟩,fun e=>(w e).ext l,fun e=>(A e).ext l,fun e=>(C e).ext l,fun e=>(D e).ext l⟩⟩
   ·exact fun I a0 P=>L.put a0 (j:=2) (a:=[99,111,117,110,116]) (k:= .num) (by kernel_rfl) (by decide:∀ i,i<7->Y8 i=Y8 2->i=2) rfl (by decide) (q P) YG.map fun h' O l o=>⟨J l,⟨O,fun e=>(M e).map o,fun e=>⟨Xs o (E e).1,(E e).2⟩,fun e=>(p e).map o,fun e=>(q e).map o,fun e=>(w e).map o,fun e=>(A e).map o,fun e=>(C e).map o,fun e=>(D e).map o⟩⟩
   ·exact fun I a0=>Y6 fun Q c2 h' l U z2 _ _ V X=>⟨J (L.ext.trans l),⟨L.call l (fun g=>g.ext l) (by decide) (by decide:∀ j,j<7->Y8 j≠18),fun e=>(M e).ext l,fun e=>⟨(E e).1.ext l,(E e).2⟩,fun e=>(p e).ext l,fun e=>(q e).ext l,fun _=>⟨Q,c2,rfl,⟨N (Aqp L.ext.size U),N (Aqp L.ext.size z2)⟩,V,X⟩,fun e=>(A e).ext l,fun e=>(C e).ext l,fun e=>(D e).ext l⟩⟩
   ·exact fun I a0 P=>L.put a0 (j:=3) (a:=[115,108,111,119]) (k:= .num) (by kernel_rfl) (by decide:∀ i,i<7->Y8 i=Y8 3->i=3) rfl (by decide) (w P) YG.map fun h' O l o=>⟨J l,⟨O,fun e=>(M e).map o,fun e=>⟨Xs o (E e).1,(E e).2⟩,fun e=>(p e).map o,fun e=>(q e).map o,fun e=>(w e).map o,fun e=>(A e).map o,fun e=>(C e).map o,fun e=>(D e).map o⟩⟩
   ·exact fun I a0=>Y6 fun Q c2 h' l U z2 _ _ V X=>⟨J (L.ext.trans l),⟨L.call l (fun g=>g.ext l) (by decide) (by decide:∀ j,j<7->Y8 j≠22),fun e=>(M e).ext l,fun e=>⟨(E e).1.ext l,(E e).2⟩,fun e=>(p e).ext l,fun e=>(q e).ext l,fun e=>(w e).ext l,fun _=>⟨Q,c2,rfl,⟨N (Aqp L.ext.size U),N (Aqp L.ext.size z2)⟩,V,X⟩,fun e=>(C e).ext l,fun e=>(D e).ext l⟩⟩
   ·exact fun I a0 P=>L.put a0 (j:=4) (a:=[108,101,97,115,116]) (k:= .num) (by kernel_rfl) (by decide:∀ i,i<7->Y8 i=Y8 4->i=4) rfl (by decide) (A P) YG.map fun h' O l o=>⟨J l,⟨O,fun e=>(M e).map o,fun e=>⟨Xs o (E e).1,(E e).2⟩,fun e=>(p e).map o,fun e=>(q e).map o,fun e=>(w e).map o,fun e=>(A e).map o,fun e=>(C e).map o,fun e=>(D e).map o⟩⟩
   ·exact fun I a0=>Y6 fun Q c2 h' l U z2 _ _ V X=>⟨J (L.ext.trans l),⟨L.call l (fun g=>g.ext l) (by decide) (by decide:∀ j,j<7->Y8 j≠26),fun e=>(M e).ext l,fun e=>⟨(E e).1.ext l,(E e).2⟩,fun e=>(p e).ext l,fun e=>(q e).ext l,fun e=>(w e).ext l,fun e=>(A e).ext l,fun _=>⟨Q,c2,rfl,⟨N (Aqp L.ext.size U),N (Aqp L.ext.size z2)⟩,V,X⟩,fun e=>(D e).ext l⟩⟩
   ·exact fun I a0 P=>L.put a0 (j:=5) (a:=[119,105,110,100,111,119]) (k:= .num) (by kernel_rfl) (by decide:∀ i,i<7->Y8 i=Y8 5->i=5) rfl (by decide) (C P) YG.map fun h' O l o=>⟨J l,⟨O,fun e=>(M e).map o,fun e=>⟨Xs o (E e).1,(E e).2⟩,fun e=>(p e).map o,fun e=>(q e).map o,fun e=>(w e).map o,fun e=>(A e).map o,fun e=>(C e).map o,fun e=>(D e).map o⟩⟩
   ·exact fun I a0=>Y6 fun Q c2 h' l U z2 _ _ V X=>⟨J (L.ext.trans l),⟨L.call l (fun g=>g.ext l) (by decide) (by decide:∀ j,j<7->Y8 j≠30),fun e=>(M e).ext l,fun e=>⟨(E e).1.ext l,(E e).2⟩,fun e=>(p e).ext l,fun e=>(q e).ext l,fun e=>(w e).ext l,fun e=>(A e).ext l,fun e=>(C e).ext l,fun _=>⟨Q,c2,rfl,⟨N (Aqp L.ext.size U),N (Aqp L.ext.size z2)⟩,V,X⟩⟩⟩
   ·exact fun I a0 P=>L.put a0 (j:=6) (a:=[114,101,99,111,118,101,114]) (k:= .num) (by kernel_rfl) (by decide:∀ i,i<7->Y8 i=Y8 6->i=6) rfl (by decide) (D P) YG.map fun h' O l o=>⟨J l,⟨O,fun e=>(M e).map o,fun e=>⟨Xs o (E e).1,(E e).2⟩,fun e=>(p e).map o,fun e=>(q e).map o,fun e=>(w e).map o,fun e=>(A e).map o,fun e=>(C e).map o,fun e=>(D e).map o⟩⟩
  ·rintro d ⟨s0,s1,s2,s3,s4,s5,s6,s7,s8,⟨⟩⟩ h ⟨L,M,E,p,q,w,A,C,D⟩
   intro d2 d5 d6 d8 d10 d11 d14 d15 d18 d19 d22 d23 d26 d27 d30 d31
   refine ⟨J L.ext,?_⟩
   obtain ⟨mb,f,n,cls,rfl,aW,hm,hf,hG⟩:=L.all d2 (fun j hj=>match j,hj with
     | 0,_=>d6
     | 1,_=>d11
     | 2,_=>d15
     | 3,_=>d19
     | 4,_=>d23
     | 5,_=>d27
     | 6,_=>d31
     | k+7,hj=>absurd hj (Azu.2 (Azv 7 k)))
   have hh:Ext G h:=ao.trans L.ext
   have aY:sz Y<=sz h:=L.ext.size
   have aw:=Zn cr L.ext
   have af:=Zn cz L.ext
   refine ⟨1,?_⟩
   refine ZoR (f165:=ZH 0) (F:=Zjr) (m0:=Zlw) (S:=S) (B:=H.size) (T:=80) (W:=fun b=>sz G<=b/\b≠H.size) (.inl ZwA) rfl Zwz (er.ext hh) (Zuk aw au) (by omega) (fun b hb=>⟨by omega,hb.2⟩) r9 (by omega) hm hf ⟨by omega,by omega⟩ hG (ht.ext hh)
     (hv.keep (fun b _ hl=>Zu hh hl) fun _ h=>h) (fun b hb=>by obtain ⟨y1,y2⟩:=hS b hb;exact ⟨by omega,y2,by omega⟩) hw (fun m h' hq hs r l u=>?_) fun e m h' hq hn hs r l u=>?_
   ·have em:m=(Zj4 m).mv:=ZqP (Ziq hs)
    obtain ⟨f,hf⟩:∃ f,f=Zj4 m:=⟨_,rfl⟩
    rw [<- hf] at em
    rw [em] at r
    have c:=ZhH r (by intro y hy;simp only [Yx.mv,Awr,Azk,or_false] at hy;rcases hy with rfl | rfl | rfl | rfl | rfl | rfl | rfl<;>(show (_:Nat)<4;simp [mk]))
    have Z:=ZG af u (by rintro (e | e | e)<;>omega)
    have az:sz h<=sz h':=u.size
    refine rS (Zb c rfl) (rI (Zb c rfl) (rI (Zb c rfl) (rI (Zb c rfl) (rI (Zb c rfl) (rI (Zb c rfl) (rI (Zb c rfl) (ZfK Z (by show 7<=7;omega) rfl fun h2 c2 u2 z2=>rS (Zb c2 rfl) (rI (Zb c2 rfl) (rI (Zb c2 rfl) (rI (Zb c2 rfl) (rI (Zb c2 rfl) (rI (Zb c2 rfl) (rI (Zb c2 rfl) (ok f h2 ?_ ?_ ?_))))))))))))))
    ·exact by unfold Zal;rw [hq,hf];rfl
    ·exact l.upd u2 fun e=>by omega
    ·exact UT (UT (hh.upd _) u fun k hk=>by rcases hk with e | e | e<;>omega) u2 fun k hk=> .inr (by omega)
   ·have em:m=(Zj4 m).mv:=ZqP (Ziq hs)
    obtain ⟨f,hf⟩:∃ f,f=Zj4 m:=⟨_,rfl⟩
    rw [<- hf] at em
    rw [em] at r
    have c:=ZhH r (by intro y hy;simp only [Yx.mv,Awr,Azk,or_false] at hy;rcases hy with rfl | rfl | rfl | rfl | rfl | rfl | rfl<;>(show (_:Nat)<4;simp [mk]))
    have Z:=ZG af u (by rintro (e | e | e)<;>omega)
    have az:sz h<=sz h':=u.size
    refine rS (Zb c rfl) (rI (Zb c rfl) (rI (Zb c rfl) (rI (Zb c rfl) (rI (Zb c rfl) (rI (Zb c rfl) (rI (Zb c rfl) (ZfK Z (by show 7<=7;omega) rfl fun h2 c2 u2 z2=>rS (Zb c2 rfl) (rI (Zb c2 rfl) (rI (Zb c2 rfl) (rI (Zb c2 rfl) (rI (Zb c2 rfl) (rI (Zb c2 rfl) (rI (Zb c2 rfl) (bad e f h2 ?_ hn ?_ ?_))))))))))))))
    ·exact by unfold Zal;rw [hq];rfl
    ·exact l.upd u2 fun e=>by omega
    ·exact UT (UT (hh.upd _) u fun k hk=>by rcases hk with e | e | e<;>omega) u2 fun k hk=> .inr (by omega)
theorem ZsX:∀ a j,Zbh a ZgN 0≠some (j,.items):=fun a j h=>by
  have:=Axq (Y5 h)
  simp [ZgN] at this
theorem ZsW:ZFu ZgN Zjz:=fun a j k h=>by
  have:=Axq (Y5 h)
  simp only [ZgN,Awr,Prod.mk.injEq,Azk,or_false] at this
  rcases this with ⟨_,rfl⟩ | ⟨_,rfl⟩ | ⟨_,rfl⟩ | ⟨_,rfl⟩ | ⟨_,rfl⟩<;>first
    | trivial
    | (show _<=255;decide)
def XL:Nat->Nat:=fun j=>([6,10,14,18,22]:List Nat).getD j 1000
set_option maxRecDepth 4000 in
set_option maxHeartbeats 2000000 in
theorem ZxS {o:Zc} {R:Nat} (er:Er o R 0) (r9:9<=R) (ht:ZaT o) (h9:9<=sz o) {z:VT5} {v:JV} {S:Nat->Prop} (hv:ZaS o S z v) (hS:∀ b,S b->b<sz o/\b≠R) (hw:wV v<=1000000000000) {K:(Int × Int × Int × Int × Int × Unit)->HP}
    (ok:∀ f h',Zaa v = .ok f->Er h' R 0->Upd (· = R) o h'->K (ZpV f) h') (bad:∀ e f h',Zaa v = .error e->e≠0->Er h' R e->Upd (· = R) o h'->K (ZpV f) h'):XH (At R) z K o:=by
  unfold XH Zby
  refine YZ fun Y M E z0=>YZ fun C c2 e1 N=>YZ fun Z c3 e2 z2=>?_
  have aA:sz o=o.size:=rfl
  have aB:sz Y=Y.size:=rfl
  have aC:sz C=C.size:=rfl
  have aD:sz Z=Z.size:=rfl
  have hR:=er.lt
  have aj:Ext o Y:=E
  have ak:Ext o C:=aj.trans e1
  have al:Ext o Z:=ak.trans e2
  have an:obj Z o.size=some (.cells (Xq z).toArray 33 (0,0)):=Zn (Zn M e1) e2
  have ao:obj Z Y.size=some (.cells [.int .i64 0,.int .i64 0,.int .i64 0,.int .i64 0,.int .i64 0].toArray 91 (0,0)):=Zn c2 e2
  refine ZfK c3 (by show 5<=5;omega) rfl fun D cs us zs=>?_
  have aE:sz D=D.size:=rfl
  have aq:Ext o D:=al.updS us fun j hj=>by subst hj;omega
  have cv:obj D o.size=some (.cells (Xq z).toArray 33 (0,0)):=ZG an us (by omega)
  have cz:obj D Y.size=some (.cells [.int .i64 0,.int .i64 0,.int .i64 0,.int .i64 0,.int .i64 0].toArray 91 (0,0)):=ZG ao us (by omega)
  have cr:obj D C.size=some (.cells (Zjz.map Zgm).toArray 91 (0,0)):=cs.trans (by kernel_rfl)
  have ar:∀ x,x∈Zjz->mk x<4:=by decide +kernel
  have G:∀ {h':Zc},Ext D h'->Yb h' [(o.size,0,.int .u8 z.1),(o.size,0+1,.string z.2.1),(o.size,0+2,.slice z.2.2.1.ptr z.2.2.1.len z.2.2.1.cap),(o.size,0+3,.slice z.2.2.2.1.ptr z.2.2.2.1.len z.2.2.2.1.cap)]:=fun e=>Zr2 (Zn cv e)
  have O:∀ {c:Nat},sz D<=c->sz o<=c/\c≠C.size:=fun h=>⟨by omega,by omega⟩
  refine rI (Zb cv rfl) (rS (Zb cv rfl) (rL (s:=z.2.2.1) (Zb cv rfl) (rL (s:=z.2.2.2.1) (Zb cv rfl) (?_))))
  refine ZdY (fun d t h=>Lit (YG R C.size (fun b=>sz o<=b/\b≠C.size)) ZgN 2 XL D d t.1 h/\(d 5=true->YG R C.size (fun b=>sz o<=b/\b≠C.size) .num 0 (.func (.func 213) #[] #[.pointer t.2.1.1,.pointer t.2.1.2.1]) h)/\(d 9=true->YG R C.size (fun b=>sz o<=b/\b≠C.size) .num 1 (.func (.func 213) #[] #[.pointer t.2.2.1.1,.pointer t.2.2.1.2.1]) h)/\(d 13=true->YG R C.size (fun b=>sz o<=b/\b≠C.size) .num 2 (.func (.func 213) #[] #[.pointer t.2.2.2.1.1,.pointer t.2.2.2.1.2.1]) h)/\(d 17=true->YG R C.size (fun b=>sz o<=b/\b≠C.size) .num 3 (.func (.func 213) #[] #[.pointer t.2.2.2.2.1.1,.pointer t.2.2.2.2.1.2.1]) h)/\(d 21=true->YG R C.size (fun b=>sz o<=b/\b≠C.size) .num 4 (.func (.func 213) #[] #[.pointer t.2.2.2.2.2.1.1,.pointer t.2.2.2.2.2.1.2.1]) h)) (none,(none,none,()),(none,none,()),(none,none,()),(none,none,()),(none,none,()),()) ⟨Lit.start _ _,(fun e=>by cases e),(fun e=>by cases e),(fun e=>by cases e),(fun e=>by cases e),(fun e=>by cases e)⟩ ?_ ?_
  ·rintro d ⟨s0,s1,s2,s3,s4,s5,⟨⟩⟩ h ⟨L,H,I,q,w,A⟩
   refine ⟨?_,?_,?_,?_,?_,?_,?_,?_,?_,?_,?_,trivial⟩
   ·exact fun E=>L.make E (by decide:∀ j,j<5->XL j≠2) fun mb h' J l=>⟨G J.ext,⟨J,fun e=>(H e).ext l,fun e=>(I e).ext l,fun e=>(q e).ext l,fun e=>(w e).ext l,fun e=>(A e).ext l⟩⟩
   ·exact fun E  => Y6 fun M c2 h' l N z2 _ _ P Q=>⟨G (L.ext.trans l),⟨L.call l (fun g=>g.ext l) (by decide) (by decide:∀ j,j<5->XL j≠5),fun _=>⟨M,c2,rfl,⟨O (Aqp L.ext.size N),O (Aqp L.ext.size z2)⟩,P,Q⟩,fun e=>(I e).ext l,fun e=>(q e).ext l,fun e=>(w e).ext l,fun e=>(A e).ext l⟩⟩
   ·exact fun E a0 U=>L.put a0 (j:=0) (a:=[113,112,115]) (k:= .num) (by kernel_rfl) (by decide:∀ i,i<5->XL i=XL 0->i=0) rfl (by decide) (H U) YG.map fun h' J l p=>⟨G l,⟨J,fun e=>(H e).map p,fun e=>(I e).map p,fun e=>(q e).map p,fun e=>(w e).map p,fun e=>(A e).map p⟩⟩
   ·exact fun E a0=>Y6 fun M c2 h' l N z2 _ _ P Q=>⟨G (L.ext.trans l),⟨L.call l (fun g=>g.ext l) (by decide) (by decide:∀ j,j<5->XL j≠9),fun e=>(H e).ext l,fun _=>⟨M,c2,rfl,⟨O (Aqp L.ext.size N),O (Aqp L.ext.size z2)⟩,P,Q⟩,fun e=>(q e).ext l,fun e=>(w e).ext l,fun e=>(A e).ext l⟩⟩
   ·exact fun E a0 U=>L.put a0 (j:=1) (a:=[116,104,114,101,97,100,115]) (k:= .num) (by kernel_rfl) (by decide:∀ i,i<5->XL i=XL 1->i=1) rfl (by decide) (I U) YG.map fun h' J l p=>⟨G l,⟨J,fun e=>(H e).map p,fun e=>(I e).map p,fun e=>(q e).map p,fun e=>(w e).map p,fun e=>(A e).map p⟩⟩
   ·exact fun E a0=>Y6 fun M c2 h' l N z2 _ _ P Q=>⟨G (L.ext.trans l),⟨L.call l (fun g=>g.ext l) (by decide) (by decide:∀ j,j<5->XL j≠13),fun e=>(H e).ext l,fun e=>(I e).ext l,fun _=>⟨M,c2,rfl,⟨O (Aqp L.ext.size N),O (Aqp L.ext.size z2)⟩,P,Q⟩,fun e=>(w e).ext l,fun e=>(A e).ext l⟩⟩
   ·exact fun E a0 U=>L.put a0 (j:=2) (a:=[114,116]) (k:= .num) (by kernel_rfl) (by decide:∀ i,i<5->XL i=XL 2->i=2) rfl (by decide) (q U) YG.map fun h' J l p=>⟨G l,⟨J,fun e=>(H e).map p,fun e=>(I e).map p,fun e=>(q e).map p,fun e=>(w e).map p,fun e=>(A e).map p⟩⟩
   ·exact fun E a0=>Y6 fun M c2 h' l N z2 _ _ P Q=>⟨G (L.ext.trans l),⟨L.call l (fun g=>g.ext l) (by decide) (by decide:∀ j,j<5->XL j≠17),fun e=>(H e).ext l,fun e=>(I e).ext l,fun e=>(q e).ext l,fun _=>⟨M,c2,rfl,⟨O (Aqp L.ext.size N),O (Aqp L.ext.size z2)⟩,P,Q⟩,fun e=>(A e).ext l⟩⟩
   ·exact fun E a0 U=>L.put a0 (j:=3) (a:=[108,111,97,100]) (k:= .num) (by kernel_rfl) (by decide:∀ i,i<5->XL i=XL 3->i=3) rfl (by decide) (w U) YG.map fun h' J l p=>⟨G l,⟨J,fun e=>(H e).map p,fun e=>(I e).map p,fun e=>(q e).map p,fun e=>(w e).map p,fun e=>(A e).map p⟩⟩
   ·exact fun E a0=>Y6 fun M c2 h' l N z2 _ _ P Q=>⟨G (L.ext.trans l),⟨L.call l (fun g=>g.ext l) (by decide) (by decide:∀ j,j<5->XL j≠21),fun e=>(H e).ext l,fun e=>(I e).ext l,fun e=>(q e).ext l,fun e=>(w e).ext l,fun _=>⟨M,c2,rfl,⟨O (Aqp L.ext.size N),O (Aqp L.ext.size z2)⟩,P,Q⟩⟩⟩
   ·exact fun E a0 U=>L.put a0 (j:=4) (a:=[99,112,117]) (k:= .num) (by kernel_rfl) (by decide:∀ i,i<5->XL i=XL 4->i=4) rfl (by decide) (A U) YG.map fun h' J l p=>⟨G l,⟨J,fun e=>(H e).map p,fun e=>(I e).map p,fun e=>(q e).map p,fun e=>(w e).map p,fun e=>(A e).map p⟩⟩
  ·rintro d ⟨s0,s1,s2,s3,s4,s5,⟨⟩⟩ h ⟨L,H,I,q,w,A⟩
   intro d2 d5 d6 d9 d10 d13 d14 d17 d18 d21 d22
   refine ⟨G L.ext,?_⟩
   obtain ⟨mb,f,n,cls,rfl,aP,hm,X,hG⟩:=L.all d2 (fun j hj=>match j,hj with
     | 0,_=>d6
     | 1,_=>d10
     | 2,_=>d14
     | 3,_=>d18
     | 4,_=>d22
     | k+5,hj=>absurd hj (Azu.2 (Azv 5 k)))
   have hh:Ext o h:=aq.trans L.ext
   have aR:sz D<=sz h:=L.ext.size
   have au:=Zn cr L.ext
   have ae:=Zn cz L.ext
   refine ⟨1,?_⟩
   refine ZoR (f165:=ZH 0) (F:=ZgN) (m0:=Zjz) (S:=S) (B:=C.size) (T:=91) (W:=fun b=>sz o<=b/\b≠C.size) (.inl ZsX) rfl ZsW (er.ext hh) (Zuk au ar) (by omega) (fun b hb=>⟨by omega,hb.2⟩) r9 (by omega) hm X ⟨by omega,by omega⟩ hG (ht.ext hh)
     (hv.keep (fun b _ hl=>Zu hh hl) fun _ h=>h) (fun b hb=>by obtain ⟨y1,y2⟩:=hS b hb;exact ⟨by omega,y2,by omega⟩) hw (fun m h' hq D r l u=>?_) fun e m h' hq hn D r l u=>?_
   ·have em:m=(ZiZ m).mv:=Zrm (Ziq D)
    obtain ⟨f,X⟩:∃ f,f=ZiZ m:=⟨_,rfl⟩
    rw [<- X] at em
    rw [em] at r
    have c:=ZhH r (by intro y hy;simp only [Y4.mv,Awr,Azk,or_false] at hy;rcases hy with rfl | rfl | rfl | rfl | rfl<;>(show (_:Nat)<4;simp [mk]))
    have V:=ZG ae u (by rintro (e | e | e)<;>omega)
    have ax:sz h<=sz h':=u.size
    refine rI (Zb c rfl) (rI (Zb c rfl) (rI (Zb c rfl) (rI (Zb c rfl) (rI (Zb c rfl) (ZfK V (by show 5<=5;omega) rfl fun h2 c2 u2 z2=>rI (Zb c2 rfl) (rI (Zb c2 rfl) (rI (Zb c2 rfl) (rI (Zb c2 rfl) (rI (Zb c2 rfl) (ok f h2 ?_ ?_ ?_))))))))))
    ·exact by unfold Zaa;rw [hq,X];rfl
    ·exact l.upd u2 fun e=>by omega
    ·exact UT (UT (hh.upd _) u fun k hk=>by rcases hk with e | e | e<;>omega) u2 fun k hk=> .inr (by omega)
   ·have em:m=(ZiZ m).mv:=Zrm (Ziq D)
    obtain ⟨f,X⟩:∃ f,f=ZiZ m:=⟨_,rfl⟩
    rw [<- X] at em
    rw [em] at r
    have c:=ZhH r (by intro y hy;simp only [Y4.mv,Awr,Azk,or_false] at hy;rcases hy with rfl | rfl | rfl | rfl | rfl<;>(show (_:Nat)<4;simp [mk]))
    have V:=ZG ae u (by rintro (e | e | e)<;>omega)
    have ax:sz h<=sz h':=u.size
    refine rI (Zb c rfl) (rI (Zb c rfl) (rI (Zb c rfl) (rI (Zb c rfl) (rI (Zb c rfl) (ZfK V (by show 5<=5;omega) rfl fun h2 c2 u2 z2=>rI (Zb c2 rfl) (rI (Zb c2 rfl) (rI (Zb c2 rfl) (rI (Zb c2 rfl) (rI (Zb c2 rfl) (bad e f h2 ?_ hn ?_ ?_))))))))))
    ·exact by unfold Zaa;rw [hq];rfl
    ·exact l.upd u2 fun e=>by omega
    ·exact UT (UT (hh.upd _) u fun k hk=>by rcases hk with e | e | e<;>omega) u2 fun k hk=> .inr (by omega)
theorem ZyR:∀ a j,Zbh a Zla 0≠some (j,.items):=fun a j h=>by
  have:=Axq (Y5 h)
  simp [Zla] at this
theorem ZyQ:ZFu Zla Zqt:=fun a j k h=>by
  have b:=Y5 h
  match j,b with
  | 0,b=>simp [Zla] at b;obtain ⟨_,rfl⟩:=b;trivial
  | 1,b=>simp [Zla] at b;obtain ⟨_,rfl⟩:=b;trivial
  | 2,b =>
    simp [Zla] at b;obtain ⟨_,rfl⟩:=b
    refine ⟨rfl,rfl,fun i y c d=>?_⟩
    match i,c,d with
    | 0,c,_=>simp [Zqt] at c;subst c;decide
    | 1,c,_=>simp [Zqt] at c;subst c;decide
    | 2,_,d=>exact absurd rfl d
    | i+3,c,_=>simp [Zqt] at c
  | j+3,b=>simp [Zla] at b
def Zel:Nat->Nat:=fun j=>([6,10,14]:List Nat).getD j 1000
set_option maxRecDepth 4000 in
set_option maxHeartbeats 2000000 in
theorem ZEN {o:Zc} {R:Nat} (er:Er o R 0) (r9:9<=R) (ht:ZaT o) (h9:9<=sz o) {z:VT5} {v:JV} {S:Nat->Prop} (hv:ZaS o S z v) (hS:∀ b,S b->b<sz o/\b≠R) (hw:wV v<=1000000000000) {K:(ByteArray × Bool × Sl × Unit)->HP}
    (ok:∀ x f h',ZaY v = .ok f->Own h' (sz o) x 1 (f.origins.map sV)->Er h' R 0->Upd (· = R) o h'->K (Zwh x f) h') (bad:∀ e x f h',ZaY v = .error e->e≠0->Own h' (sz o) x 1 (f.origins.map sV)->Er h' R e->Upd (· = R) o h'->K (Zwh x f) h'):X0 (At R) z K o:=by
  unfold X0 Zcf
  refine YZ fun I O H z0=>YZ fun h3 c2 e1 V=>YZ fun A c3 e2 z2=>YZ fun D c4 e3 z3=>?_
  have aI:sz o=o.size:=rfl
  have aJ:sz I=I.size:=rfl
  have aK:sz h3=h3.size:=rfl
  have aL:sz A=A.size:=rfl
  have aM:sz D=D.size:=rfl
  have hR:=er.lt
  have aq:Ext o I:=H
  have ar:Ext o h3:=aq.trans e1
  have au:Ext o A:=ar.trans e2
  have av:Ext o D:=au.trans e3
  have aw:obj D I.size=some (.cells (Xq z).toArray 33 (0,0)):=Zn (Zn c2 e2) e3
  have ax:obj D h3.size=some (.cells [.string (ByteArray.mk #[]),.bool false,.slice none 0 0].toArray 95 (0,0)):=Zn c3 e3
  have P:Box D o.size (.pointer (At R)):=⟨_,Zn (Zn (Zn O e1) e2) e3⟩
  have cv:=aw
  have cz:=ax
  have cr:obj D A.size=some (.cells ([.t [],.b false].map Zgm++[slV ⟨none,0,0⟩]).toArray 95 (0,0)):=c4.trans (by kernel_rfl)
  have ay:∀ x,x∈[.t [],.b false]->mk x<4:=by decide +kernel
  have J:∀ {h':Zc},Ext D h'->Yb h' [(I.size,0,.int .u8 z.1),(I.size,0+1,.string z.2.1),(I.size,0+2,.slice z.2.2.1.ptr z.2.2.1.len z.2.2.1.cap),(I.size,0+3,.slice z.2.2.2.1.ptr z.2.2.2.1.len z.2.2.2.1.cap)]:=fun e=>Zr2 (Zn cv e)
  have X:∀ {c:Nat},sz D<=c->sz o<=c/\c≠A.size:=fun h=>⟨by omega,by omega⟩
  have p:∀ {h':Zc},Ext D h'->Yb h' [(o.size,0,.pointer (At R))]:=fun e=>Zf9 (P.ext e)
  have az:=P
  have aA:sz o<=o.size/\o.size≠A.size:=⟨by omega,by omega⟩
  obtain ⟨Tp,Y⟩:=P
  refine rP (Zb Y rfl) (rI (Zb cv rfl) (rS (Zb cv rfl) (rL (s:=z.2.2.1) (Zb cv rfl) (rL (s:=z.2.2.2.1) (Zb cv rfl) (rP (Zb Y rfl) (rP (Zb Y rfl) (rP (Zb Y rfl) (?_))))))))
  refine ZdY (fun d t h=>Lit (YG R A.size (fun b=>sz o<=b/\b≠A.size)) Zla 2 Zel D d t.1 h/\(d 5=true->YG R A.size (fun b=>sz o<=b/\b≠A.size) .text 0 (.func (.func 211) #[] #[.pointer t.2.1.1,.pointer t.2.1.2.1]) h)/\(d 9=true->YG R A.size (fun b=>sz o<=b/\b≠A.size) .yes 1 (.func (.func 212) #[] #[.pointer t.2.2.1.1,.pointer t.2.2.1.2.1]) h)/\(d 13=true->YG R A.size (fun b=>sz o<=b/\b≠A.size) .texts 2 (.func (.func 216) #[] #[.pointer t.2.2.2.1.1,.pointer t.2.2.2.1.2.1]) h)) (none,(none,none,()),(none,none,()),(none,none,()),()) ⟨Lit.start _ _,(fun e=>by cases e),(fun e=>by cases e),(fun e=>by cases e)⟩ ?_ ?_
  ·rintro d ⟨s0,s1,s2,s3,⟨⟩⟩ h ⟨L,M,N,q⟩
   refine ⟨?_,?_,?_,?_,?_,?_,?_,trivial⟩
   ·exact fun H=>L.make H (by decide:∀ j,j<3->Zel j≠2) fun mb h' E l=>⟨p E.ext,⟨p E.ext,⟨p E.ext,⟨J E.ext,⟨p E.ext,⟨E,fun e=>(M e).ext l,fun e=>(N e).ext l,fun e=>(q e).ext l⟩⟩⟩⟩⟩⟩
   ·exact fun H  => Zf3 fun O c2 h' l V z2 _ _ b1 b2=>⟨p (L.ext.trans l),⟨p (L.ext.trans l),⟨J (L.ext.trans l),⟨p (L.ext.trans l),⟨L.call l (fun g=>g.ext l) (by decide) (by decide:∀ j,j<3->Zel j≠5),fun _=>⟨O,c2,rfl,⟨X (Aqp L.ext.size V),X (Aqp L.ext.size z2)⟩,b1,b2⟩,fun e=>(N e).ext l,fun e=>(q e).ext l⟩⟩⟩⟩⟩
   ·exact fun H a0 a1=>L.put a0 (j:=0) (a:=[114,101,115,111,117,114,99,101]) (k:= .text) (by kernel_rfl) (by decide:∀ i,i<3->Zel i=Zel 0->i=0) rfl (by decide) (M a1) YG.map fun h' E l G=>⟨p l,⟨p l,⟨p l,⟨J l,⟨p l,⟨E,fun e=>(M e).map G,fun e=>(N e).map G,fun e=>(q e).map G⟩⟩⟩⟩⟩⟩
   ·exact fun H a0=>ZlT fun O c2 h' l V z2 _ _ b1 b2=>⟨p (L.ext.trans l),⟨p (L.ext.trans l),⟨J (L.ext.trans l),⟨p (L.ext.trans l),⟨L.call l (fun g=>g.ext l) (by decide) (by decide:∀ j,j<3->Zel j≠9),fun e=>(M e).ext l,fun _=>⟨O,c2,rfl,⟨X (Aqp L.ext.size V),X (Aqp L.ext.size z2)⟩,b1,b2⟩,fun e=>(q e).ext l⟩⟩⟩⟩⟩
   ·exact fun H a0 a1=>L.put a0 (j:=1) (a:=[119,104,105,116,101]) (k:= .yes) (by kernel_rfl) (by decide:∀ i,i<3->Zel i=Zel 1->i=1) rfl (by decide) (N a1) YG.map fun h' E l G=>⟨p l,⟨p l,⟨p l,⟨J l,⟨p l,⟨E,fun e=>(M e).map G,fun e=>(N e).map G,fun e=>(q e).map G⟩⟩⟩⟩⟩⟩
   ·exact fun H a0=>Zwf fun O c2 h' l V z2 b1 b2=>⟨p (L.ext.trans l),⟨p (L.ext.trans l),⟨J (L.ext.trans l),⟨p (L.ext.trans l),⟨L.call l (fun g=>g.ext l) (by decide) (by decide:∀ j,j<3->Zel j≠13),fun e=>(M e).ext l,fun e=>(N e).ext l,fun _=>⟨O,c2,_,rfl,⟨X (Aqp L.ext.size V),X (Aqp L.ext.size z2),aA⟩,b1,b2,az.ext (L.ext.trans l)⟩⟩⟩⟩⟩⟩
   ·exact fun H a0 a1=>L.put a0 (j:=2) (a:=[111,114,105,103,105,110,115]) (k:= .texts) (by kernel_rfl) (by decide:∀ i,i<3->Zel i=Zel 2->i=2) rfl (by decide) (q a1) YG.map fun h' E l G=>⟨p l,⟨p l,⟨p l,⟨J l,⟨p l,⟨E,fun e=>(M e).map G,fun e=>(N e).map G,fun e=>(q e).map G⟩⟩⟩⟩⟩⟩
  ·rintro d ⟨s0,s1,s2,s3,⟨⟩⟩ h ⟨L,M,N,q⟩
   intro d2 d5 d6 d9 d10 d13 d14
   refine ⟨p L.ext,⟨p L.ext,⟨p L.ext,⟨J L.ext,⟨p L.ext,?_⟩⟩⟩⟩⟩
   obtain ⟨mb,f,n,cls,rfl,aW,hm,Z,hG⟩:=L.all d2 (fun j hj=>match j,hj with
     | 0,_=>d6
     | 1,_=>d10
     | 2,_=>d14
     | k+3,hj=>absurd hj (Azu.2 (Azv 3 k)))
   have hh:Ext o h:=av.trans L.ext
   have aY:sz D<=sz h:=L.ext.size
   have aC:=Zn cr L.ext
   have ag:=Zn cz L.ext
   refine ⟨1,?_⟩
   refine ZoR (f165:=ZH 0) (F:=Zla) (m0:=Zqt) (S:=S) (B:=A.size) (T:=95) (W:=fun b=>sz o<=b/\b≠A.size) (.inl ZyR) rfl ZyQ (er.ext hh) (Zyc aC ay ⟨⟨none,0,0⟩,rfl,Own.nil _ _ _⟩) (by omega) (fun b hb=>⟨by omega,hb.2⟩) r9 (by omega) hm Z ⟨by omega,by omega⟩ hG (ht.ext hh)
     (hv.keep (fun b _ hl=>Zu hh hl) fun _ h=>h) (fun b hb=>by obtain ⟨y1,y2⟩:=hS b hb;exact ⟨by omega,y2,by omega⟩) hw (fun m h' hq hs r l u=>?_) fun e m h' hq hn hs r l u=>?_
   ·have em:m=(Zlt m).mv:=Zto (Ziq hs)
    obtain ⟨f,Z⟩:∃ f,f=Zlt m:=⟨_,rfl⟩
    rw [<- Z] at em
    rw [em] at r
    obtain ⟨w,c,x,rfl,own⟩:=ZlP (m:=[.t f.res,.b f.white]) r (by intro y hy;simp only [Awr,Azk,or_false] at hy;rcases hy with rfl | rfl<;>(show (_:Nat)<4;simp [mk]))
    have Q:=ZG ag u (by rintro (e | e | e)<;>omega)
    have aF:sz h<=sz h':=u.size
    have C:Box h' o.size (.pointer (At R)):=Box.upd (Box.ext ⟨Tp,Y⟩ L.ext) u (by rintro (e | e | e)<;>omega)
    refine ⟨Zf9 C,⟨Zf9 C,⟨Zf9 C,rS (Zb c rfl) (rBl (Zb c rfl) (rL (s:=x) (Zb c rfl) (ZfK Q (by show 3<=3;omega) rfl fun h2 c2 U z2=>rS (Zb c2 rfl) (rBl (Zb c2 rfl) (rL (s:=x) (Zb c2 rfl) (ok x f h2 ?_ (by exact (own.congr fun b _ hl hb=>Zt U hl fun e=>by omega).base (by omega)) ?_ ?_))))))⟩⟩⟩
    ·exact by unfold ZaY;rw [hq,Z];rfl
    ·exact l.upd U fun e=>by omega
    ·exact UT (UT (hh.upd _) u fun k hk=>by rcases hk with e | e | e<;>omega) U fun k hk=> .inr (by omega)
   ·have em:m=(Zlt m).mv:=Zto (Ziq hs)
    obtain ⟨f,Z⟩:∃ f,f=Zlt m:=⟨_,rfl⟩
    rw [<- Z] at em
    rw [em] at r
    obtain ⟨w,c,x,rfl,own⟩:=ZlP (m:=[.t f.res,.b f.white]) r (by intro y hy;simp only [Awr,Azk,or_false] at hy;rcases hy with rfl | rfl<;>(show (_:Nat)<4;simp [mk]))
    have Q:=ZG ag u (by rintro (e | e | e)<;>omega)
    have aF:sz h<=sz h':=u.size
    have C:Box h' o.size (.pointer (At R)):=Box.upd (Box.ext ⟨Tp,Y⟩ L.ext) u (by rintro (e | e | e)<;>omega)
    refine ⟨Zf9 C,⟨Zf9 C,⟨Zf9 C,rS (Zb c rfl) (rBl (Zb c rfl) (rL (s:=x) (Zb c rfl) (ZfK Q (by show 3<=3;omega) rfl fun h2 c2 U z2=>rS (Zb c2 rfl) (rBl (Zb c2 rfl) (rL (s:=x) (Zb c2 rfl) (bad e x f h2 ?_ hn (by exact (own.congr fun b _ hl hb=>Zt U hl fun e=>by omega).base (by omega)) ?_ ?_))))))⟩⟩⟩
    ·exact by unfold ZaY;rw [hq];rfl
    ·exact l.upd U fun e=>by omega
    ·exact UT (UT (hh.upd _) u fun k hk=>by rcases hk with e | e | e<;>omega) U fun k hk=> .inr (by omega)
end Go.Proofs.YtpjbjdheeemdiaaGreatDoor
