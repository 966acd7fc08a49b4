/- Rules in plain words: the five kinds, what is wrong with them, which values say them. No program. -/
import Derived.KernelRfl
import Derived.Test.YtpjbjdheeemdiaaGreatDoorPa12
set_option linter.unusedVariables false
set_option linter.unusedSimpArgs false
namespace Go.Js
open Go
structure FlowP where
  (res org:BL) (thr:Bool) (cnt:Int) (strat:Nat) (ref:BL) (shape:Nat) (warm queue:Int) (clu:Bool) (id:Int) (fb:Bool)
deriving DecidableEq
structure YJ where
  (res:BL) (grade:Nat) (cnt slow least window recover:Int)
deriving DecidableEq
structure ZeP where
  (res:BL) (index cnt secs:Int) (items:List (BL × Int))
deriving DecidableEq
structure Xi where
  (qps threads rt load cpu:Int)
deriving DecidableEq
structure Za2 where
  (res:BL) (white:Bool) (origins:List BL)
deriving DecidableEq
structure RulesP where
  (fl:List FlowP) (br:List YJ) (ho:List ZeP) (sy:List Xi) (li:List Za2)
deriving DecidableEq
def RulesP.zero:RulesP:=⟨[],[],[],[],[]⟩
def FlowP.mv (f:FlowP):List MV:=[.t f.res,.t f.org,.b f.thr,.n f.cnt,.w f.strat,.t f.ref,.w f.shape,.n f.warm,.n f.queue,.b f.clu,.n f.id,.b f.fb]
def YJ.mv (f:YJ):List MV:=[.t f.res,.w f.grade,.n f.cnt,.n f.slow,.n f.least,.n f.window,.n f.recover]
def ZeP.mv (f:ZeP):List MV:=[.t f.res,.n f.index,.n f.cnt,.n f.secs,.is f.items]
def Xi.mv (f:Xi):List MV:=[.n f.qps,.n f.threads,.n f.rt,.n f.load,.n f.cpu]
def Za2.mv (f:Za2):List MV:=[.t f.res,.b f.white,.ts f.origins]
def Zjl:List MV->FlowP
  | [.t a,.t b,.b c,.n d,.w e,.t f,.w g,.n h,.n i,.b j,.n k,.b l]=>⟨a,b,c,d,e,f,g,h,i,j,k,l⟩
  | _=>⟨[],[],false,0,0,[],0,0,0,false,0,false⟩
def ZiR:List MV->YJ
  | [.t a,.w b,.n c,.n d,.n e,.n f,.n g]=>⟨a,b,c,d,e,f,g⟩
  | _=>⟨[],0,0,0,0,0,0⟩
def ZpW:List MV->ZeP
  | [.t a,.n b,.n c,.n d,.is e]=>⟨a,b,c,d,e⟩
  | _=>⟨[],0,0,0,[]⟩
def Zh1:List MV->Xi
  | [.n a,.n b,.n c,.n d,.n e]=>⟨a,b,c,d,e⟩
  | _=>⟨0,0,0,0,0⟩
def Zkf:List MV->Za2
  | [.t a,.b b,.ts c]=>⟨a,b,c⟩
  | _=>⟨[],false,[]⟩
def MV.sort:MV->Nat
  | .t _=>0 | .n _=>1 | .b _=>2 | .w _=>3 | .ts _=>4 | .is _=>5
theorem Zk5 {x:MV} (h:x.sort=0):∃ s,x = .t s:=by cases x<;>simp [MV.sort] at h;exact ⟨_,rfl⟩
theorem Zd2 {x:MV} (h:x.sort=1):∃ s,x = .n s:=by cases x<;>simp [MV.sort] at h;exact ⟨_,rfl⟩
theorem Zsc {x:MV} (h:x.sort=2):∃ s,x = .b s:=by cases x<;>simp [MV.sort] at h;exact ⟨_,rfl⟩
theorem Zwz {x:MV} (h:x.sort=3):∃ s,x = .w s:=by cases x<;>simp [MV.sort] at h;exact ⟨_,rfl⟩
theorem ZCG {x:MV} (h:x.sort=4):∃ s,x = .ts s:=by cases x<;>simp [MV.sort] at h;exact ⟨_,rfl⟩
theorem ZCH {x:MV} (h:x.sort=5):∃ s,x = .is s:=by cases x<;>simp [MV.sort] at h;exact ⟨_,rfl⟩
theorem ZC {α β:Type} {f:α->β} {l:List α} {b:β} {r:List β} (h:l.map f=b::r):∃ a l',l=a::l'/\f a=b/\l'.map f=r:=by
  cases l with
  | nil=>cases h
  | cons a l'=>simp only [Awo,Axy] at h;exact ⟨a,l',rfl,h.1,h.2⟩
theorem Zd5 {α β:Type} {f:α->β} {l:List α} (h:l.map f=[]):l=[]:=by simpa using h
theorem Zry {m:List MV} (h:m.map MV.sort=Zp8.map MV.sort):m=(Zjl m).mv:=by
  obtain ⟨x1,l,rfl,h1,h⟩:=ZC h
  obtain ⟨x2,l,rfl,h2,h⟩:=ZC h
  obtain ⟨x3,l,rfl,h3,h⟩:=ZC h
  obtain ⟨x4,l,rfl,h4,h⟩:=ZC h
  obtain ⟨x5,l,rfl,h5,h⟩:=ZC h
  obtain ⟨x6,l,rfl,h6,h⟩:=ZC h
  obtain ⟨x7,l,rfl,h7,h⟩:=ZC h
  obtain ⟨x8,l,rfl,h8,h⟩:=ZC h
  obtain ⟨x9,l,rfl,h9,h⟩:=ZC h
  obtain ⟨x10,l,rfl,h10,h⟩:=ZC h
  obtain ⟨x11,l,rfl,h11,h⟩:=ZC h
  obtain ⟨x12,l,rfl,h12,h⟩:=ZC h
  have:=Zd5 h;subst this
  obtain ⟨_,rfl⟩:=Zk5 h1
  obtain ⟨_,rfl⟩:=Zk5 h2
  obtain ⟨_,rfl⟩:=Zsc h3
  obtain ⟨_,rfl⟩:=Zd2 h4
  obtain ⟨_,rfl⟩:=Zwz h5
  obtain ⟨_,rfl⟩:=Zk5 h6
  obtain ⟨_,rfl⟩:=Zwz h7
  obtain ⟨_,rfl⟩:=Zd2 h8
  obtain ⟨_,rfl⟩:=Zd2 h9
  obtain ⟨_,rfl⟩:=Zsc h10
  obtain ⟨_,rfl⟩:=Zd2 h11
  obtain ⟨_,rfl⟩:=Zsc h12
  rfl
theorem ZoK {m:List MV} (h:m.map MV.sort=Zkj.map MV.sort):m=(ZiR m).mv:=by
  obtain ⟨x1,l,rfl,h1,h⟩:=ZC h
  obtain ⟨x2,l,rfl,h2,h⟩:=ZC h
  obtain ⟨x3,l,rfl,h3,h⟩:=ZC h
  obtain ⟨x4,l,rfl,h4,h⟩:=ZC h
  obtain ⟨x5,l,rfl,h5,h⟩:=ZC h
  obtain ⟨x6,l,rfl,h6,h⟩:=ZC h
  obtain ⟨x7,l,rfl,h7,h⟩:=ZC h
  have:=Zd5 h;subst this
  obtain ⟨_,rfl⟩:=Zk5 h1
  obtain ⟨_,rfl⟩:=Zwz h2
  obtain ⟨_,rfl⟩:=Zd2 h3
  obtain ⟨_,rfl⟩:=Zd2 h4
  obtain ⟨_,rfl⟩:=Zd2 h5
  obtain ⟨_,rfl⟩:=Zd2 h6
  obtain ⟨_,rfl⟩:=Zd2 h7
  rfl
theorem ZxE {m:List MV} (h:m.map MV.sort=ZxF.map MV.sort):m=(ZpW m).mv:=by
  obtain ⟨x1,l,rfl,h1,h⟩:=ZC h
  obtain ⟨x2,l,rfl,h2,h⟩:=ZC h
  obtain ⟨x3,l,rfl,h3,h⟩:=ZC h
  obtain ⟨x4,l,rfl,h4,h⟩:=ZC h
  obtain ⟨x5,l,rfl,h5,h⟩:=ZC h
  have:=Zd5 h;subst this
  obtain ⟨_,rfl⟩:=Zk5 h1
  obtain ⟨_,rfl⟩:=Zd2 h2
  obtain ⟨_,rfl⟩:=Zd2 h3
  obtain ⟨_,rfl⟩:=Zd2 h4
  obtain ⟨_,rfl⟩:=ZCH h5
  rfl
theorem Zpp {m:List MV} (h:m.map MV.sort=Ziw.map MV.sort):m=(Zh1 m).mv:=by
  obtain ⟨x1,l,rfl,h1,h⟩:=ZC h
  obtain ⟨x2,l,rfl,h2,h⟩:=ZC h
  obtain ⟨x3,l,rfl,h3,h⟩:=ZC h
  obtain ⟨x4,l,rfl,h4,h⟩:=ZC h
  obtain ⟨x5,l,rfl,h5,h⟩:=ZC h
  have:=Zd5 h;subst this
  obtain ⟨_,rfl⟩:=Zd2 h1
  obtain ⟨_,rfl⟩:=Zd2 h2
  obtain ⟨_,rfl⟩:=Zd2 h3
  obtain ⟨_,rfl⟩:=Zd2 h4
  obtain ⟨_,rfl⟩:=Zd2 h5
  rfl
theorem Zrm {m:List MV} (h:m.map MV.sort=Zos.map MV.sort):m=(Zkf m).mv:=by
  obtain ⟨x1,l,rfl,h1,h⟩:=ZC h
  obtain ⟨x2,l,rfl,h2,h⟩:=ZC h
  obtain ⟨x3,l,rfl,h3,h⟩:=ZC h
  have:=Zd5 h;subst this
  obtain ⟨_,rfl⟩:=Zk5 h1
  obtain ⟨_,rfl⟩:=Zsc h2
  obtain ⟨_,rfl⟩:=ZCG h3
  rfl
def ZCX (c:UInt8):Bool:=decide (33<=c.toNat)&&decide (c.toNat<=126)
def ZbO (l:BL):Bool:=l.all ZCX&&(decide (1<=l.length)&&decide (l.length<=64))
def inB (n lo hi:Int):Bool:=decide (lo<=n)&&decide (n<=hi)
def ZcX (asked:Bool) (n lo hi:Int):Bool:=if asked then inB n lo hi else decide (n=0)
def Zgj:List BL->Bool
  | []=>false
  | a::l=>decide (a∈l)||Zgj l
def FlowP.names (f:FlowP):Bool:=ZbO f.res&&ZbO f.org&&(if f.strat=1\/f.strat=2 then ZbO f.ref else true)
def FlowP.good (f:FlowP):Bool :=
  inB f.cnt (if f.shape=0 then 0 else 1) 1099511627776&&(decide (f.strat<=2)&&decide (f.shape<=3))&&(!decide (f.strat=0)||decide (f.ref=[]))&&(!f.thr||decide (f.shape=0) && !f.clu) &&
  (ZcX (decide (f.shape=1)||decide (f.shape=3)) f.warm 1 3600&&ZcX (decide (f.shape=2)||decide (f.shape=3)) f.queue 0 3600000000) &&
  (!f.clu||decide (f.strat=0)&&decide (f.shape=0))&&(ZcX f.clu f.id 1 1099511627776&&(f.clu || !f.fb))
def FlowP.err (f:FlowP):Nat:=if f.names then (if f.good then 0 else 30) else 10
def YJ.good (b:YJ):Bool :=
  (decide (b.grade<=2)&&inB b.cnt 0 (if b.grade=2 then 1099511627776 else 1000))&&ZcX (decide (b.grade=0)) b.slow 1 3600000000 &&
  (inB b.least 1 1099511627776&&inB b.window 1000000 120000000)&&inB b.recover 1000000 3600000000
def YJ.err (b:YJ):Nat:=if ZbO b.res then (if b.good then 0 else 31) else 10
def ZeP.good (b:ZeP):Bool :=
  (inB b.index 0 7&&inB b.cnt 0 1099511627776)&&(inB b.secs 1 60&&decide (b.items.length<=32) && !Zgj (b.items.map (·.1)))&&b.items.all fun p=>decide (p.1.length<=64)&&inB p.2 0 1099511627776
def ZeP.err (b:ZeP):Nat:=if ZbO b.res then (if b.good then 0 else 32) else 10
def Xi.err (b:Xi):Nat:=if inB b.qps (-1) 1099511627776&&inB b.threads (-1) 1099511627776&&inB b.rt (-1) 1099511627776&&inB b.load (-1) 1099511627776&&inB b.cpu (-1) 1099511627776 then 0 else 33
def Za2.err (b:Za2):Nat:=if ZbO b.res&&b.origins.all ZbO then (if decide (1<=b.origins.length)&&decide (b.origins.length<=32) && !Zgj b.origins then 0 else 34) else 10
def Zdw {α:Type} (f:α->Nat):List α->Nat->Option (Nat × Nat)
  | [],_=>none
  | a::l,i=>if f a=0 then Zdw f l (i+1) else some (i,f a)
def RulesP.whereE (r:RulesP):Nat × Nat × Nat :=
  if 256<r.fl.length then (1,0,5) else if 256<r.br.length then (2,0,5) else if 256<r.ho.length then (3,0,5) else if 256<r.sy.length then (4,0,5) else if 256<r.li.length then (5,0,5) else
  match Zdw FlowP.err r.fl 0 with
  | some (i,e)=>(1,i,e)
  | none=>match Zdw YJ.err r.br 0 with
    | some (i,e)=>(2,i,e)
    | none=>match Zdw ZeP.err r.ho 0 with
      | some (i,e)=>(3,i,e)
      | none=>match Zdw Xi.err r.sy 0 with
        | some (i,e)=>(4,i,e)
        | none=>match Zdw Za2.err r.li 0 with
          | some (i,e)=>(5,i,e)
          | none=>(0,0,0)
def ZaP (v:JV):Except Nat FlowP:=(Xp ZaK Zmn Zp8 v).map Zjl
def X7 (v:JV):Except Nat YJ:=(Xp ZaK Ziq Zkj v).map ZiR
def Zcj (v:JV):Except Nat ZeP:=(Xp ZaK ZsI ZxF v).map ZpW
def XZ (v:JV):Except Nat Xi:=(Xp ZaK ZfS Ziw v).map Zh1
def ZaO (v:JV):Except Nat Za2:=(Xp ZaK ZjX Zos v).map Zkf
def Zab {α:Type} (f:JV->Except Nat α):List JV->Nat->Except (Nat × Nat) (List α)
  | [],_=> .ok []
  | v::l,i=>match f v with
    | .error e=> .error (i,e)
    | .ok a=>match Zab f l (i+1) with
      | .error p=> .error p
      | .ok al=> .ok (a::al)
def Zks:List (BL × Unit):=[(tx "flow", ()),(tx "break", ()),(tx "hot", ()),(tx "system", ()),(tx "authority", ())]
def Zlf:List JL:=[.nil,.nil,.nil,.nil,.nil]
def Zl5 (l:List JL) (i:Nat):List JV:=(l.getD i .nil).list
def Zci (l:List JL):Except (Nat × Nat × Nat) RulesP :=
  match Zab ZaP (Zl5 l 0) 0 with
  | .error (i,e)=> .error (1,i,e)
  | .ok a=>match Zab X7 (Zl5 l 1) 0 with
    | .error (i,e)=> .error (2,i,e)
    | .ok b=>match Zab Zcj (Zl5 l 2) 0 with
      | .error (i,e)=> .error (3,i,e)
      | .ok c=>match Zab XZ (Zl5 l 3) 0 with
        | .error (i,e)=> .error (4,i,e)
        | .ok d=>match Zab ZaO (Zl5 l 4) 0 with
          | .error (i,e)=> .error (5,i,e)
          | .ok f=> .ok ⟨a,b,c,d,f⟩
def Zgu (v:JV):Except (Nat × Nat × Nat) RulesP :=
  match Xp Zib Zks Zlf v with
  | .error e=> .error (0,0,e)
  | .ok l=>match Zci l with
    | .error p=> .error p
    | .ok r=>if r.whereE.2.2=0 then .ok r else .error r.whereE
end Go.Js
namespace Go.Js
open Go
def FK.sort:FK->Nat
  | .text=>0 | .num=>1 | .yes=>2 | .word _=>3 | .texts=>4 | .items=>5
theorem ZtH {k:FK} {v:JV} {x:MV} (h:Zdg k v = .ok x):x.sort=k.sort:=by
  cases k<;>simp only [Zdg] at h
  case text=>split at h<;>cases h;rfl
  case num =>
    split at h
    ·split at h<;>cases h
     rfl
    ·cases h
  case yes =>
    split at h
    ·cases h;rfl
    ·split at h<;>cases h
     rfl
  case word =>
    split at h
    ·split at h<;>cases h
     rfl
    ·cases h
  case texts =>
    split at h
    ·split at h<;>cases h
     rfl
    ·cases h
  case items=>cases h
theorem ZmT {k:FK} {v:JV} {x:MV} (h:ZaK k v = .ok x):x.sort=k.sort:=by
  cases k
  case items =>
    simp only [ZaK] at h
    split at h
    ·split at h<;>cases h
     rfl
    ·cases h
  all_goals exact ZtH h
theorem ZmS {κ μ:Type} {rd:κ->JV->Except Nat μ} (hr:∀ k v e,rd k v = .error e->e=26\/e=21) {F:List (BL × κ)}:∀ {l:List (BL × JV)} {seen:List BL} {m:List μ} {e:Nat},Zgo rd F seen l m = .error e->e=26\/e=21
  | [],_,_,_,h=>by cases h
  | (a,v)::r,seen,m,e,h=>by
    simp only [Zgo] at h
    split at h
    ·cases h;exact .inl rfl
    ·split at h
     ·cases h;exact .inl rfl
     ·split at h
      ·rename_i e' he
       cases h
       exact hr _ _ _ he
      ·exact ZmS hr h
theorem ZiA {κ μ:Type} {rd:κ->JV->Except Nat μ} (hr:∀ k v e,rd k v = .error e->e=26\/e=21) {F:List (BL × κ)} {v:JV} {m:List μ} {e:Nat} (h:Xp rd F m v = .error e):e=26\/e=21:=by
  unfold Xp at h
  split at h
  ·exact ZmS hr h
  ·cases h;exact .inl rfl
theorem ZsC {α β:Type} {f:α->Except Nat β} (hr:∀ a e,f a = .error e->e=26\/e=21):∀ {l:List α} {e:Nat},Zjx f l = .error e->e=26\/e=21
  | [],_,h=>by cases h
  | a::l,e,h=>by
    simp only [Zjx] at h
    split at h
    ·rename_i e' he
     cases h
     exact hr _ _ he
    ·split at h
     ·rename_i e' he
      cases h
      exact ZsC hr he
     ·cases h
theorem ZpC {v:JV} {e:Nat} (h:Zby v = .error e):e=26\/e=21:=by
  unfold Zby at h
  split at h
  ·cases h
  ·rename_i e' he
   cases h
   exact ZiA (fun _ _ _=>ZpD) he
theorem Zja {k:FK} {v:JV} {e:Nat} (h:ZaK k v = .error e):e=26\/e=21:=by
  cases k
  case items =>
    simp only [ZaK] at h
    split at h
    ·split at h
     ·cases h
     ·rename_i e' he
      cases h
      exact ZsC (fun _ _=>ZpC) he
    ·cases h;exact .inl rfl
  all_goals (simp only [ZaK] at h;exact ZpD h)
theorem Zhb:∀ {l:JL} {w:JV},w∈l.list->wV w<=pw l
  | .nil,w,h=>by simp [JL.list] at h
  | .cons k t ns s r,w,h=>by
    simp only [JL.list,Awr] at h
    simp only [pw]
    rcases h with h | h
    ·subst h;simp only [wV];omega
    ·have:=Zhb h;omega
theorem ZdN:∀ l:JL,l.len<=pw l
  | .nil=>Aqo _
  | .cons k t ns s r=>by have:=ZdN r;simp only [JL.len,pw];omega
end Go.Js
namespace Go.Proofs.YtpjbjdheeemdiaaGreatDoor
open Go Go.Fw Go.Js
theorem Zxf:∀ x:MV,mk x=x.sort:=fun x=>by cases x<;>rfl
theorem YD.bound {R B:Nat} {W:Nat->Prop} {k:FK} {j:Nat} {v:Value} {h:Zc} (g:YD R B W k j v h):YD R B (fun b=>W b/\b<sz h) k j v h:=by
  cases k with
  | text=>obtain ⟨c1,c2,e,w,a,b⟩:=g;exact ⟨c1,c2,e,⟨⟨w.1,a.lt⟩,w.2,b.lt⟩,a,b⟩
  | num=>obtain ⟨c1,c2,e,w,a,b⟩:=g;exact ⟨c1,c2,e,⟨⟨w.1,a.lt⟩,w.2,b.lt⟩,a,b⟩
  | yes=>obtain ⟨c1,c2,e,w,a,b⟩:=g;exact ⟨c1,c2,e,⟨⟨w.1,a.lt⟩,w.2,b.lt⟩,a,b⟩
  | word ws=>obtain ⟨c1,c2,c3,x,F,e,w,a,b,c,d,f⟩:=g;exact ⟨c1,c2,c3,x,F,e,⟨⟨w.1,a.lt⟩,⟨w.2.1,b.lt⟩,w.2.2,f.lt⟩,a,b,⟨c.1,fun h0 y hy=>⟨c.2 h0 y hy,Zi8 c.1 (by decide) h0 y hy⟩⟩,d,f⟩
  | texts=>obtain ⟨c1,c2,c3,e,w,a,b,c⟩:=g;exact ⟨c1,c2,c3,e,⟨⟨w.1,a.lt⟩,⟨w.2.1,b.lt⟩,w.2.2,c.lt⟩,a,b,c⟩
  | items=>obtain ⟨c1,c2,c3,e,w,a,b,c⟩:=g;exact ⟨c1,c2,c3,e,⟨⟨w.1,a.lt⟩,⟨w.2.1,b.lt⟩,w.2.2,c.lt⟩,a,b,c⟩
def Zte (fh:ZnB):Prop:=∀ {h:Zc} {R B:Nat} {T:TypeId} {base:Nat} {m:List MV} {c3:Nat} {l:List (BL × Int)} {z:VT5} {v:JV} {S:Nat->Prop} {K:HP},Er h R 0->Zge B T base m h->B≠R->R<base->B<base->base<=sz h->9<=R->9<=B ->
  Box h c3 (.pointer (At R))->(c3<base/\c3≠R/\c3≠B)->m[4]?=some (.is l)->Zml m 4->l.length<=1000000000000->ZaN h->Zam h S z v->(∀ b,S b->b<base/\b≠R/\b≠B)->wV v<=1000000000000 ->
  (∀ x h',Zby v = .ok x->Zge B T base (m.set 4 (.is (l++[x]))) h'->Er h' R 0->Upd (Wr R B base) h h'->K h') ->
  (∀ e l' h',Zby v = .error e->e≠0->Zge B T base (m.set 4 (.is l')) h'->Er h' R e->Upd (Wr R B base) h h'->K h')->fh z (At c3) (At B) K h
def ZDK (F:Zyu) (m0:List MV):Prop:=∀ a j k,Zbs a F 0=some (j,k)->match k with
  | .texts=>j=2/\m0[2]?=some (.ts [])/\Zml m0 2
  | .items=>j=4/\m0[4]?=some (.is [])/\Zml m0 4
  | .word ws=>ws.length<=255
  | _=>True
theorem Zm8 {m m0:List MV} {j:Nat} (h:Zml m0 j) (hs:m.map mk=m0.map mk):Zml m j:=fun i y hy hne=>by
  have h1:(m.map mk)[i]?=some (mk y):=by rw [Awz,hy];rfl
  rw [hs,Awz] at h1
  cases hq:m0[i]? with
  | none=>rw [hq] at h1;cases h1
  | some y0 =>
    rw [hq] at h1
    have:mk y0=mk y:=by simpa using h1
    rw [<- this]
    exact h i y0 hq hne
theorem Zm0 {f165:ZcV} {F:Zyu} {m0:List MV} (hI:(∀ a j,Zbs a F 0≠some (j,.items))\/Zte (Xk f165)) (hty:F.map (·.2.sort)=m0.map mk) (hsp:ZDK F m0)
    {h0:Zc} {R B:Nat} {T:TypeId} {W:Nat->Prop} {mb n:Nat} {f:BL->Option Value} {cls:Nat->Value} (er:Er h0 R 0) (rc:Zge B T (sz h0+1) m0 h0) (ne:B≠R) (hW:∀ b,W b->b≠R/\b≠B) (r9:9<=R) (b9:9<=B)
    (hmap:ZoW h0 mb f n) (hf:∀ a,f a=(Zbs a F 0).map fun p=>cls p.1) (hmb:mb≠R/\mb≠B) (hG:∀ a j k,Zbs a F 0=some (j,k)->YD R B W k j (cls j) h0) (ht:ZaN h0)
    {z:VT5} {v:JV} {S:Nat->Prop} (hv:Zam h0 S z v) (hS:∀ b,S b->b<sz h0/\b≠R/\b≠B) (hw:wV v<=1000000000000)
    {K:HP} (ok:∀ m h',Xp ZaK F m0 v = .ok m->m.map mk=m0.map mk->Zge B T (sz h0+1) m h'->Er h' R 0->Upd (Wr R B (sz h0+1)) h0 h'->K h')
    (bad:∀ e m h',Xp ZaK F m0 v = .error e->e≠0->m.map mk=m0.map mk->Zge B T (sz h0+1) m h'->Er h' R e->Upd (Wr R B (sz h0+1)) h0 h'->K h') :
    Xq f165 (At R) z (some mb) K h0:=by
  have hR:=er.lt
  have hB:=rc.lt
  have hml:m0.length=F.length:=by have:=congrArg List.length hty;simpa using this.symm
  have hpw:pw v.sub<=1000000000000:=by have:=hw;unfold wV at this;omega
  refine Zm5 (rd:=ZaK) (F:=F) (m0:=m0) (tgt:=fun m h=>Zge B T (sz h0+1) m h/\m.map mk=m0.map mk) (W:=Wr R B (sz h0+1)) (P:=fun w=>wV w<=1000000000000) (cls:=cls) er ⟨rc,rfl⟩ (.inl rfl) ?_ hmap hf ?_ ?_ ?_ hv (fun b hb=>?_) (fun w hw=>Aqp (Zhb hw) hpw) ?_
    (fun m h' a b c d=>ok m h' a b.2 b.1 c d) fun e m h' a b c d=>bad e m h' a (by rcases ZiA (fun _ _ _=>Zja) a with e | e<;>omega) b.2 b.1 c d
  ·have:sz h0=h0.size:=rfl
   rintro (e | e | e)<;>omega
  ·have:=hmap.lt
   have:sz h0=h0.size:=rfl
   rintro (e | e | e)<;>omega
  ·intro a j k hq
   exact (hG a j k hq).fn
  ·intro m h h' a hs u
   exact ⟨a.1.upd u ne fun b e=> .inl (by omega),a.2⟩
  ·obtain ⟨b1,b2,b3⟩:=hS b hb
   refine ⟨b1,?_⟩
   rintro (e | e | e)<;>omega
  ·intro h m j k a z' v' K' u szl tg er' hfa hz hwv hm ok' bad'
   have g0:=(hG a j k hfa).bound
   have hjl:=Zp9 hfa
   have hx:∃ x0,m[j]?=some x0/\mk x0=k.sort:=by
     have h1:(F.map (·.2.sort))[j]?=some k.sort:=by rw [Awz,Y2 hfa];rfl
     rw [hty,<- tg.2,Awz] at h1
     cases hq:m[j]? with
     | none=>rw [hq] at h1;cases h1
     | some x0=>rw [hq] at h1;exact ⟨x0,rfl,by simpa using h1⟩
   obtain ⟨x0,hx0,hs0⟩:=hx
   have hsm:∀ {x:MV},ZaK k v' = .ok x->(m.set j x).map mk=m0.map mk:=fun hx=>by rw [Zsx hx0 (by rw [hs0,Zxf,ZmT hx])];exact tg.2
   have u9:ZaN h:=ht.upd u fun b hb=>by rcases hb with e | e | e<;>omega
   have szu:sz h0<=sz h:=u.size
   have bx:∀ {c:Nat} {w:Value},Box h0 c w->W c/\c<sz h0->Box h c w:=fun {c w'} b w=>b.upd u fun hb=>by
     have:=hW c w.1
     rcases hb with e | e | e<;>omega
   have lft:ZAi h R B T (sz h0+1) m j (ZaK k v') K':=⟨fun x h' a b c d=>ok' x h' a ⟨b,hsm a⟩ c (d.mono fun b _ e=>e.elim .inl fun e=> .inr (.inl e)),
     fun e m' h' a b c d f=>bad' e m' h' a (by rcases Zja a with e | e<;>omega) ⟨c,b.trans tg.2⟩ d (f.mono fun b _ e=>e.elim .inl fun e=> .inr (.inl e))⟩
   cases k with
   | text =>
     obtain ⟨c1,c2,e,w,b1,b2⟩:=g0
     have k1:=hW c1 w.1.1
     have k2:=hW c2 w.2.1
     exact .inl ⟨(At c1,At c2,()),e,ZCC ⟨er',tg.1,ne,by omega,by omega,bx b1 w.1,bx b2 w.2,by omega,by omega⟩ hx0 hz.1 hz.2.1 lft⟩
   | yes =>
     obtain ⟨c1,c2,e,w,b1,b2⟩:=g0
     have k1:=hW c1 w.1.1
     have k2:=hW c2 w.2.1
     exact .inr (.inl ⟨(At c1,At c2,()),e,ZED ⟨er',tg.1,ne,by omega,by omega,bx b1 w.1,bx b2 w.2,by omega,by omega⟩ hx0 hs0 hz.1 lft⟩)
   | num =>
     obtain ⟨c1,c2,e,w,b1,b2⟩:=g0
     have k1:=hW c1 w.1.1
     have k2:=hW c2 w.2.1
     exact .inr (.inr (.inl ⟨(At c1,At c2,()),e,Zw7 ⟨er',tg.1,ne,by omega,by omega,bx b1 w.1,bx b2 w.2,by omega,by omega⟩ hx0 u9 hz.1 hz.2.1 (by unfold wV at hwv;omega) lft⟩))
   | word ws =>
     obtain ⟨c1,c2,c3,x,F',e,w,b1,b2,⟨rw1,rw2⟩,kw,b3⟩:=g0
     have k1:=hW c1 w.1.1
     have k2:=hW c2 w.2.1.1
     have k3:=hW c3 w.2.2.1
     have hin:inS (fun b=>b<sz h) x:=fun h0' b hb=>by have:=(rw2 h0' b hb).2;omega
     exact .inr (.inr (.inr (.inl ⟨(At c1,At c2,At c3,()),e,ZCu er' tg.1 ne (by omega) (by omega) (bx b1 w.1) (bx b2 w.2.1) (Yi rw1 rw2 fun b hb hl=>Zo u hl fun hU=>by
       have:=hW b hb.1
       rcases hU with e | e | e<;>omega) hin (hsp a j _ hfa) kw (bx b3 w.2.2) hx0 hz.1 hz.2.1 lft⟩)))
   | texts =>
     obtain ⟨c1,c2,c3,e,w,b1,b2,b3⟩:=g0
     have k1:=hW c1 w.1.1
     have k2:=hW c2 w.2.1.1
     have k3:=hW c3 w.2.2.1
     obtain ⟨rfl,q1,q2⟩:=hsp a j _ hfa
     refine .inr (.inr (.inr (.inr (.inl ⟨(At c1,At c2,()),e,?_⟩))))
     exact Zy5 (S:=S) er' tg.1 ne (by omega) (by omega) szl (bx b1 w.1) (bx b3 w.2.2) (bx b2 w.2.1) (by omega) (by omega) (by omega) hz (fun b hb=>by obtain ⟨y1,y2,y3⟩:=hS b hb;exact ⟨by omega,y2,y3⟩) (hm.trans q1) (Zm8 q2 tg.2)
       (by have:=ZdN v'.sub;unfold wV at hwv;omega) (fun x h' a b c d=>ok' x h' a ⟨b,hsm a⟩ c d) fun e m' h' a b c d f=>bad' e m' h' a (by rcases Zja (k:= .texts) a with e | e<;>omega) ⟨c,b.trans tg.2⟩ d f
   | items =>
     obtain ⟨c1,c2,c3,e,w,b1,b2,b3⟩:=g0
     have k1:=hW c1 w.1.1
     have k2:=hW c2 w.2.1.1
     have k3:=hW c3 w.2.2.1
     obtain ⟨rfl,q1,q2⟩:=hsp a j _ hfa
     rcases hI with hI | hI
     ·exact absurd hfa (hI a 4)
     refine .inr (.inr (.inr (.inr (.inl ⟨(At c1,At c2,()),e,?_⟩))))
     have hj4:m[4]?=some (.is []):=hm.trans q1
     refine Zta (S:=S) (rdE:=Zby) (wrap:=MV.is) (P:=fun w=>wV w<=1000000000000) er' tg.1 ne (by omega) (by omega) szl (bx b1 w.1) (bx b2 w.2.1) (by omega) (by omega) hz (fun b hb=>by obtain ⟨y1,y2,y3⟩:=hS b hb;exact ⟨by omega,y2,y3⟩)
       (fun w hw=>Aqp (Zhb hw) (by unfold wV at hwv;omega)) hj4 (by have:=ZdN v'.sub;unfold wV at hwv;omega) (fun {h5 l z5 v5 K5} u5 r5 e5 hl hz5 hw5 ok5 bad5=>?_) (fun l h' hk hm5 r e u=>?_) fun e l' h' hres r e' u=>?_
     ·have u05:=u.trans u5
      have s5:sz h<=sz h5:=u5.size
      refine .inl ⟨(At c3,At B,()),rfl,?_⟩
      refine hI (S:=S) (l:=l) e5 r5 ne (by omega) (by omega) (by omega) r9 b9 ((bx b3 w.2.2).upd u5 fun hU=>by rcases hU with e | e | e<;>omega) (by omega) (by rw [Ayv (Azj.1 hj4).1]) (ZpQ (Zm8 q2 tg.2) _) hl
        (ht.upd u05 fun b hb=>by rcases hb with e | e | e<;>omega) hz5 (fun b hb=>by obtain ⟨y1,y2,y3⟩:=hS b hb;exact ⟨by omega,y2,y3⟩) hw5 (fun x h' hx r' e' u'=>?_) fun e l' h' hx h9 r' e' u'=>?_
      ·rw [List.set_set] at r'
       exact ok5 x h' hx r' e' u'
      ·rw [List.set_set] at r'
       exact bad5 e l' h' hx h9 r' e' u'
     ·have hr:ZaK .items v' = .ok (.is l):=by simp [ZaK,hk,hm5]
      exact ok' (.is l) h' hr ⟨r,hsm hr⟩ e u
     ·have hr:ZaK .items v' = .error e:=by
        by_cases hk:v'.k=6
        ·rw [if_pos hk] at hres
         simp [ZaK,hk,hres]
        ·rw [if_neg hk] at hres
         cases hres
         simp [ZaK,hk]
      exact bad' e (m.set 4 (.is l')) h' hr (by rcases Zja (k:= .items) hr with e | e<;>omega) ⟨r,(Zsx (x:= .is l') hj4 rfl).trans tg.2⟩ e' u
end Go.Proofs.YtpjbjdheeemdiaaGreatDoor
namespace Go.Proofs.YtpjbjdheeemdiaaGreatDoor
open Go Go.Fw Go.Js
def i8 (n:Nat):Value:= .int .u8 (n:Int)
def i64 (n:Int):Value:= .int .i64 n
def Zdx (f:FlowP):List Value:=[sV f.res,sV f.org,.bool f.thr,i64 f.cnt,i8 f.strat,sV f.ref,i8 f.shape,i64 f.warm,i64 f.queue,.bool f.clu,i64 f.id,.bool f.fb]
def Zcc (f:YJ):List Value:=[sV f.res,i8 f.grade,i64 f.cnt,i64 f.slow,i64 f.least,i64 f.window,i64 f.recover]
def Zbw (f:Xi):List Value:=[i64 f.qps,i64 f.threads,i64 f.rt,i64 f.load,i64 f.cpu]
def Zkw (p:Sl × ZeP):List Value:=[sV p.2.res,i64 p.2.index,i64 p.2.cnt,i64 p.2.secs,slV p.1]
def ZfF (p:Sl × Za2):List Value:=[sV p.2.res,.bool p.2.white,slV p.1]
def ZFX (h:Zc) (S:Nat->Prop) (p:Sl × ZeP):Prop:=Row h p.1 2 (Ze0 p.2.items)/\inS S p.1
def Ztd (h:Zc) (S:Nat->Prop) (p:Sl × Za2):Prop:=Row h p.1 1 (p.2.origins.map sV)/\inS S p.1
abbrev VTR:=Sl × Sl × Sl × Sl × Sl × Unit
structure Zat (h:Zc) (S:Nat->Prop) (z:VTR) (r:RulesP):Prop where
  fl:Row h z.1 12 (r.fl.flatMap Zdx)/\inS S z.1
  br:Row h z.2.1 7 (r.br.flatMap Zcc)/\inS S z.2.1
  ho:∃ hp:List (Sl × ZeP),hp.map (·.2)=r.ho/\(Row h z.2.2.1 5 (hp.flatMap Zkw)/\inS S z.2.2.1)/\∀ p,p∈hp->ZFX h S p
  sy:Row h z.2.2.2.1 5 (r.sy.flatMap Zbw)/\inS S z.2.2.2.1
  li:∃ lp:List (Sl × Za2),lp.map (·.2)=r.li/\(Row h z.2.2.2.2.1 3 (lp.flatMap ZfF)/\inS S z.2.2.2.2.1)/\∀ p,p∈lp->Ztd h S p
theorem ZgL {h h':Zc} {S:Nat->Prop} {x:Sl} {n:Nat} {vs:List Value} (r:Row h x n vs/\inS S x) (he:∀ b,S b->b<sz h->obj h' b=obj h b):Row h' x n vs/\inS S x:=⟨Yi r.1 r.2 he,r.2⟩
theorem Zat.keep {h h':Zc} {S:Nat->Prop} {z:VTR} {r:RulesP} (a:Zat h S z r) (he:∀ b,S b->b<sz h->obj h' b=obj h b):Zat h' S z r:=by
  obtain ⟨hp,h1,h2,h3⟩:=a.ho
  obtain ⟨lp,l1,l2,l3⟩:=a.li
  exact ⟨ZgL a.fl he,ZgL a.br he,⟨hp,h1,ZgL h2 he,fun p hp=>ZgL (h3 p hp) he⟩,ZgL a.sy he,⟨lp,l1,ZgL l2 he,fun p hp=>ZgL (l3 p hp) he⟩⟩
theorem Zat.ext {h h':Zc} {S:Nat->Prop} {z:VTR} {r:RulesP} (a:Zat h S z r) (u:Ext h h'):Zat h' S z r:=a.keep fun b _ hl=>Zq u hl
theorem Zat.mono {h:Zc} {S S':Nat->Prop} {z:VTR} {r:RulesP} (a:Zat h S z r) (hs:∀ b,b<sz h->S b->S' b):Zat h S' z r:=by
  obtain ⟨hp,h1,h2,h3⟩:=a.ho
  obtain ⟨lp,l1,l2,l3⟩:=a.li
  have m:∀ {x:Sl} {n:Nat} {vs:List Value},0<n->Row h x n vs/\inS S x->Row h x n vs/\inS S' x:=fun {x n vs} hn r=>⟨r.1,fun h0 b hb=>hs b (Zi8 r.1 hn h0 b hb) (r.2 h0 b hb)⟩
  exact ⟨m (by decide) a.fl,m (by decide) a.br,⟨hp,h1,m (by decide) h2,fun p hp=>m (by decide) (h3 p hp)⟩,m (by decide) a.sy,⟨lp,l1,m (by decide) l2,fun p hp=>m (by decide) (l3 p hp)⟩⟩
theorem Zat.zero (h:Zc) (S:Nat->Prop):Zat h S (⟨Option.none,0,0⟩,⟨Option.none,0,0⟩,⟨Option.none,0,0⟩,⟨Option.none,0,0⟩,⟨Option.none,0,0⟩,()) RulesP.zero :=
  have nl:∀ n,Row h ⟨Option.none,0,0⟩ n []/\inS S (⟨Option.none,0,0⟩:Sl):=fun n=>⟨Row.nil h n,fun h0=>absurd rfl h0⟩
  ⟨nl 12,nl 7,⟨[],rfl,nl 5,fun p hp=>by simp at hp⟩,nl 5,⟨[],rfl,nl 3,fun p hp=>by simp at hp⟩⟩
theorem ZkP {h:Zc} {ws:List BL} {n:Nat} {T:TypeId} (hn:ws.length=n) (hs:n<1000) {cells:List Value} (hc:cells=ws.map sV) {K:Sl->HP} (hk:∀ x h',Ext h h'->Row h' x 1 (ws.map sV)->inS (fun b=>sz h<=b) x->K x h') :
    newC h cells T fun b h1=>K ⟨some ⟨b,0,none⟩,n,n⟩ h1:=by
  subst hc
  refine YX fun h1 c1 e1 z1=>hk _ h1 e1 ⟨by simp [hn],Aqo _,by show n<_;omega,.inr ⟨h.size,0,rfl,ZdR c1 fun i v hi=>by simpa using hi⟩⟩ fun _ b hb=>?_
  have:h.size=b:=by simpa [Sl.blk] using hb
  have:sz h=h.size:=rfl
  omega
theorem Zr9 {h:Zc} {K:Sl->HP} (hk:∀ x h',Ext h h'->Row h' x 1 (Zg8.map sV)->inS (fun b=>sz h<=b) x->K x h'):Xg K h:=by
  unfold Xg Zcw
  exact ZkP (ws:=Zg8) rfl (by decide) (by kernel_rfl) hk
theorem Zsd {h:Zc} {K:Sl->HP} (hk:∀ x h',Ext h h'->Row h' x 1 (Zg9.map sV)->inS (fun b=>sz h<=b) x->K x h'):X1 K h:=by
  unfold X1 Zd8
  exact ZkP (ws:=Zg9) rfl (by decide) (by kernel_rfl) hk
theorem ZsO {h:Zc} {K:Sl->HP} (hk:∀ x h',Ext h h'->Row h' x 1 (Zhf.map sV)->inS (fun b=>sz h<=b) x->K x h'):X2 K h:=by
  unfold X2 Zd9
  exact ZkP (ws:=Zhf) rfl (by decide) (by kernel_rfl) hk
theorem Zxg {h:Zc} {r tO:Option Addr} {w:Sl} {F:Nat} {T1 T2 T3:TypeId} {K:(Option Addr × Option Addr × Option Addr × Unit)->HP} (hk:∀ c1 c2 c3 h',Ext h h'->sz h<=c1->sz h<=c2->sz h<=c3->Box h' c1 (.pointer r)->Box h' c2 (slV w)->Box h' c3 (.func (.func F) #[] #[.pointer tO])->K (At c1,At c2,At c3,()) h') :
    newC h [.pointer r] T1 fun b h1=>newC h1 [.slice w.ptr w.len w.cap] T2 fun b2 h3=>Y6 (Yc (.func (.func F) #[] #[.pointer tO])=true) <| newC h3 [.func (.func F) #[] #[.pointer tO]] T3 fun b4 h5=>K (some ⟨b,0,none⟩,some ⟨b2,0,none⟩,some ⟨b4,0,none⟩,()) h5:=by
  refine YX fun h1 c1 e1 z1=>YX fun h3 c3 e3 z3=>⟨rfl,YX fun h5 c5 e5 z5=>?_⟩
  have s1:sz h=h.size:=rfl
  exact hk h.size h1.size h3.size h5 (e1.trans (e3.trans e5)) (by omega) (by omega) (by omega) ⟨_,Zl (Zl c1 e3) e5⟩ ⟨_,Zl c3 e5⟩ ⟨_,c5⟩
theorem ZAH {h:Zc} {r:Option Addr} {cl:Value} {T1 T2:TypeId} (hc:Yc cl=true) {K:(Option Addr × Option Addr × Unit)->HP} (hk:∀ c1 c2 h',Ext h h'->sz h<=c1->sz h<=c2->Box h' c1 (.pointer r)->Box h' c2 cl->K (At c1,At c2,()) h') :
    newC h [.pointer r] T1 fun b h1=>Y6 (Yc cl=true) <| newC h1 [cl] T2 fun b2 h3=>K (some ⟨b,0,none⟩,some ⟨b2,0,none⟩,()) h3:=by
  refine YX fun h1 c1 e1 z1=>⟨hc,YX fun h3 c3 e3 z3=>?_⟩
  have s1:sz h=h.size:=rfl
  exact hk h.size h1.size h3 (e1.trans e3) (by omega) (by omega) ⟨_,Zl c1 e3⟩ ⟨_,c3⟩
theorem ZtY {h:Zc} {r tO:Option Addr} {w:Sl} {K:(Option Addr × Option Addr × Option Addr × Unit)->HP} (hk:∀ c1 c2 c3 h',Ext h h'->sz h<=c1->sz h<=c2->sz h<=c3->Box h' c1 (.pointer r)->Box h' c2 (slV w)->Box h' c3 (.func (.func 140) #[] #[.pointer tO])->K (At c1,At c2,At c3,()) h') :
    Z3 r w (tO,()) K h:=by
  unfold Z3 YM
  exact Zxg hk
theorem ZtX {h:Zc} {r tO:Option Addr} {w:Sl} {K:(Option Addr × Option Addr × Option Addr × Unit)->HP} (hk:∀ c1 c2 c3 h',Ext h h'->sz h<=c1->sz h<=c2->sz h<=c3->Box h' c1 (.pointer r)->Box h' c2 (slV w)->Box h' c3 (.func (.func 141) #[] #[.pointer tO])->K (At c1,At c2,At c3,()) h') :
    Z2 r w (tO,()) K h:=by
  unfold Z2 YL
  exact Zxg hk
theorem ZpL {h:Zc} {r tO:Option Addr} {w:Sl} {K:(Option Addr × Option Addr × Option Addr × Unit)->HP} (hk:∀ c1 c2 c3 h',Ext h h'->sz h<=c1->sz h<=c2->sz h<=c3->Box h' c1 (.pointer r)->Box h' c2 (slV w)->Box h' c3 (.func (.func 142) #[] #[.pointer tO])->K (At c1,At c2,At c3,()) h') :
    ZT r w (tO,()) K h:=by
  unfold ZT YC
  exact Zxg hk
theorem Zxh {h:Zc} {r a b:Option Addr} {K:(Option Addr × Option Addr × Unit)->HP} (hk:∀ c1 c2 h',Ext h h'->sz h<=c1->sz h<=c2->Box h' c1 (.pointer r)->Box h' c2 (.func (.func 143) #[] #[.pointer a,.pointer b])->K (At c1,At c2,()) h') :
    Z4 r (a,b,()) K h:=by
  unfold Z4 YN
  exact ZAH rfl hk
theorem ZtZ {h:Zc} {r a b:Option Addr} {K:(Option Addr × Option Addr × Unit)->HP} (hk:∀ c1 c2 h',Ext h h'->sz h<=c1->sz h<=c2->Box h' c1 (.pointer r)->Box h' c2 (.func (.func 145) #[] #[.pointer a,.pointer b])->K (At c1,At c2,()) h') :
    ZW r (a,b,()) K h:=by
  unfold ZW YH
  exact ZAH rfl hk
theorem ZpY {h:Zc} {b:Nat} {z:VT5} {T:TypeId} {f:Nat × Nat} (c:obj h b=some (.cells (Xl z).toArray T f)):Z9 h [(b,0,.int .u8 z.1),(b,0+1,.string z.2.1),(b,0+2,.slice z.2.2.1.ptr z.2.2.1.len z.2.2.1.cap),(b,0+3,.slice z.2.2.2.1.ptr z.2.2.2.1.len z.2.2.2.1.cap)]:=by
  refine ⟨?_,?_,?_,?_,trivial⟩<;>rw [X6]<;>exact Zb c rfl
theorem Zfp {h:Zc} {b:Nat} {p:Option Addr} (c:Box h b (.pointer p)):Z9 h [(b,0,.pointer p)]:=by
  obtain ⟨T,c⟩:=c
  refine ⟨?_,trivial⟩
  rw [X6]
  exact Zb c rfl
theorem rBl {h:Zc} {b o:Nat} {n:Bool} {K:Bool->Prop} (hc:ZbA o (obj h b)=some (.bool n)) (hk:K n):ldB h b o K:=by
  unfold ldB
  exact ⟨n,by rw [X6];exact hc,hk⟩
def ZfB:MV->Value
  | .t s=>sV s | .n i=>i64 i | .b x=> .bool x | .w i=>i8 i | _=> .nilFunc
theorem ZeQ.of {h:Zc} {base:Nat} {v:Value} {x:MV} (hx:mk x<4):ZeQ h base v x↔v=ZfB x:=by
  cases x<;>first
    | exact Iff.rfl
    | (simp [mk] at hx)
theorem Zsg {B:Nat} {T:TypeId} {base:Nat} {m:List MV} {h:Zc} (c:obj h B=some (.cells (m.map ZfB).toArray T (0,0))) (hm:∀ x,x∈m->mk x<4):Zge B T base m h :=
  ⟨_,c,by simp,fun i x hx=>⟨ZfB x,by rw [Awz,hx];rfl,(ZeQ.of (hm x (Axq hx))).2 rfl⟩⟩
theorem ZgH {B:Nat} {T:TypeId} {base:Nat} {m:List MV} {h:Zc} (r:Zge B T base m h) (hm:∀ x,x∈m->mk x<4):obj h B=some (.cells (m.map ZfB).toArray T (0,0)):=by
  obtain ⟨vs,c,hl,g⟩:=r
  have:vs=m.map ZfB:=by
    refine Awy fun i=>?_
    rw [Awz]
    cases hq:m[i]? with
    | none=>rw [Aqt (by rw [hl];exact Azs.1 hq)];rfl
    | some x =>
      obtain ⟨v,h1,h2⟩:=g i x hq
      rw [h1,(ZeQ.of (hm x (Axq hq))).1 h2]
      rfl
  rw [<- this]
  exact c
theorem ZwN {B:Nat} {T:TypeId} {base:Nat} {m:List MV} {y:MV} {h:Zc} {w:Value} (c:obj h B=some (.cells (m.map ZfB++[w]).toArray T (0,0))) (hm:∀ x,x∈m->mk x<4) (hy:ZeQ h base w y):Zge B T base (m++[y]) h:=by
  refine ⟨_,c,by simp,fun i x hx=>?_⟩
  rcases Aqd i m.length with hi | hi
  ·rw [Awu hi] at hx
   exact ⟨ZfB x,by rw [Awu (by simpa using hi),Awz,hx];rfl,(ZeQ.of (hm x (Axq hx))).2 rfl⟩
  ·rw [Aww hi] at hx
   have hi0:i - m.length=0:=by
     have:=(Azj.1 hx).1
     simp at this
     omega
   rw [hi0] at hx
   simp at hx
   subst hx
   exact ⟨w,by rw [Aww (by simpa using hi),Ayx,hi0];rfl,hy⟩
theorem ZkF {B:Nat} {T:TypeId} {base:Nat} {m:List MV} {y:MV} {h:Zc} (r:Zge B T base (m++[y]) h) (hm:∀ x,x∈m->mk x<4):∃ w,obj h B=some (.cells (m.map ZfB++[w]).toArray T (0,0))/\ZeQ h base w y:=by
  obtain ⟨vs,c,hl,g⟩:=r
  obtain ⟨w,h1,h2⟩:=g m.length y (by simp)
  refine ⟨w,?_,h2⟩
  have:vs=m.map ZfB++[w]:=by
    refine Awy fun i=>?_
    rcases Aqd i m.length with hi | hi
    ·rw [Awu (by simpa using hi),Awz,Ayb hi]
     obtain ⟨v,h3,h4⟩:=g i m[i] (by rw [Awu hi,Ayb hi])
     rw [h3,(ZeQ.of (hm _ (Azl hi))).1 h4]
     rfl
    ·rcases Aqd m.length i with h5 | h5
     ·rw [Aqt (by rw [hl];simp;omega),Aqt (by simp;omega)]
     ·obtain rfl:i=m.length:=by omega
      rw [h1,Aww (by simp)]
      simp
  rw [<- this]
  exact c
def ZzT (f:FlowP):ByteArray × ByteArray × Bool × Int × Int × ByteArray × Int × Int × Int × Bool × Int × Bool × Unit:=(Zk f.res,Zk f.org,f.thr,f.cnt,(f.strat:Int),Zk f.ref,(f.shape:Int),f.warm,f.queue,f.clu,f.id,f.fb,())
def Zs7 (f:YJ):ByteArray × Int × Int × Int × Int × Int × Int × Unit:=(Zk f.res,(f.grade:Int),f.cnt,f.slow,f.least,f.window,f.recover,())
def ZDQ (x:Sl) (f:ZeP):ByteArray × Int × Int × Int × Sl × Unit:=(Zk f.res,f.index,f.cnt,f.secs,x,())
def ZnU (f:Xi):Int × Int × Int × Int × Int × Unit:=(f.qps,f.threads,f.rt,f.load,f.cpu,())
def Zt1 (x:Sl) (f:Za2):ByteArray × Bool × Sl × Unit:=(Zk f.res,f.white,x,())
theorem Zhu {m m0:List MV} (h:m.map mk=m0.map mk):m.map MV.sort=m0.map MV.sort:=by
  have e:mk=MV.sort:=funext Zxf
  rw [e] at h
  exact h
theorem ZxO:∀ a j,Zbs a Zmn 0≠some (j,.items):=fun a j h=>by
  have:=Axq (Y2 h)
  simp [Zmn] at this
theorem ZxN:ZDK Zmn Zp8:=fun a j k h=>by
  have:=Axq (Y2 h)
  simp only [Zmn,Awr,Prod.mk.injEq,Azi,or_false] at this
  rcases this with ⟨_,rfl⟩ | ⟨_,rfl⟩ | ⟨_,rfl⟩ | ⟨_,rfl⟩ | ⟨_,rfl⟩ | ⟨_,rfl⟩ | ⟨_,rfl⟩ | ⟨_,rfl⟩ | ⟨_,rfl⟩ | ⟨_,rfl⟩ | ⟨_,rfl⟩ | ⟨_,rfl⟩<;>first
    | trivial
    | (show _<=255;decide)
def Yp:Nat->Nat:=fun j=>([6,10,14,18,23,27,32,36,40,44,48,52]:List Nat).getD j 1000
set_option maxRecDepth 4000 in
set_option maxHeartbeats 2000000 in
theorem ZDu {h0:Zc} {R:Nat} (er:Er h0 R 0) (r9:9<=R) (ht:ZaN h0) (h9:9<=sz h0) {z:VT5} {v:JV} {S:Nat->Prop} (hv:Zam h0 S z v) (hS:∀ b,S b->b<sz h0/\b≠R) (hw:wV v<=1000000000000) {K:(ByteArray × ByteArray × Bool × Int × Int × ByteArray × Int × Int × Int × Bool × Int × Bool × Unit)->HP}
    (ok:∀ f h',ZaP v = .ok f->Er h' R 0->Upd (· = R) h0 h'->K (ZzT f) h') (bad:∀ e f h',ZaP v = .error e->e≠0->Er h' R e->Upd (· = R) h0 h'->K (ZzT f) h'):XS (At R) z K h0:=by
  unfold XS Zb1
  refine YX fun h1 c1 e0 z0=>YX fun h3 c2 e1 z1=>YX fun h5 c3 e2 z2=>?_
  have s_h0:sz h0=h0.size:=rfl
  have s_h1:sz h1=h1.size:=rfl
  have s_h3:sz h3=h3.size:=rfl
  have s_h5:sz h5=h5.size:=rfl
  have hR:=er.lt
  have ex0:Ext h0 h1:=e0
  have ex1:Ext h0 h3:=ex0.trans e1
  have ex2:Ext h0 h5:=ex1.trans e2
  have cv5:obj h5 h0.size=some (.cells (Xl z).toArray 33 (0,0)):=Zl (Zl c1 e1) e2
  have cz5:obj h5 h1.size=some (.cells [.string (ByteArray.mk #[]),.string (ByteArray.mk #[]),.bool false,.int .i64 0,.int .u8 0,.string (ByteArray.mk #[]),.int .u8 0,.int .i64 0,.int .i64 0,.bool false,.int .i64 0,.bool false].toArray 75 (0,0)):=Zl c2 e2
  refine ZeW c3 (by show 12<=12;omega) rfl fun hs cs us zs=>?_
  have s_hs:sz hs=hs.size:=rfl
  have exs:Ext h0 hs:=ex2.updS us fun j hj=>by subst hj;omega
  have cv:obj hs h0.size=some (.cells (Xl z).toArray 33 (0,0)):=ZB cv5 us (by omega)
  have cz:obj hs h1.size=some (.cells [.string (ByteArray.mk #[]),.string (ByteArray.mk #[]),.bool false,.int .i64 0,.int .u8 0,.string (ByteArray.mk #[]),.int .u8 0,.int .i64 0,.int .i64 0,.bool false,.int .i64 0,.bool false].toArray 75 (0,0)):=ZB cz5 us (by omega)
  have cr:obj hs h3.size=some (.cells (Zp8.map ZfB).toArray 75 (0,0)):=cs.trans (by kernel_rfl)
  have hlf:∀ x,x∈Zp8->mk x<4:=by decide +kernel
  have Hv:∀ {h':Zc},Ext hs h'->Z9 h' [(h0.size,0,.int .u8 z.1),(h0.size,0+1,.string z.2.1),(h0.size,0+2,.slice z.2.2.1.ptr z.2.2.1.len z.2.2.1.cap),(h0.size,0+3,.slice z.2.2.2.1.ptr z.2.2.2.1.len z.2.2.2.1.cap)]:=fun e=>ZpY (Zl cv e)
  have wk:∀ {c:Nat},sz hs<=c->sz h0<=c/\c≠h3.size:=fun h=>⟨by omega,by omega⟩
  refine rI (Zb cv rfl) (rS (Zb cv rfl) (rL (s:=z.2.2.1) (Zb cv rfl) (rL (s:=z.2.2.2.1) (Zb cv rfl) (?_))))
  refine Zds (fun d t h=>Lit (YD R h3.size (fun b=>sz h0<=b/\b≠h3.size)) Zmn 2 Yp hs d t.1 h/\(d 5=true->YD R h3.size (fun b=>sz h0<=b/\b≠h3.size) .text 0 (.func (.func 211) #[] #[.pointer t.2.1.1,.pointer t.2.1.2.1]) h)/\(d 9=true->YD R h3.size (fun b=>sz h0<=b/\b≠h3.size) .text 1 (.func (.func 211) #[] #[.pointer t.2.2.1.1,.pointer t.2.2.1.2.1]) h)/\(d 13=true->YD R h3.size (fun b=>sz h0<=b/\b≠h3.size) .yes 2 (.func (.func 212) #[] #[.pointer t.2.2.2.1.1,.pointer t.2.2.2.1.2.1]) h)/\(d 17=true->YD R h3.size (fun b=>sz h0<=b/\b≠h3.size) .num 3 (.func (.func 213) #[] #[.pointer t.2.2.2.2.1.1,.pointer t.2.2.2.2.1.2.1]) h)/\(d 20=true->Row h t.2.2.2.2.2.1 1 (Zg8.map sV)/\inS (fun b=>sz h0<=b/\b≠h3.size) t.2.2.2.2.2.1)/\(d 22=true->YD R h3.size (fun b=>sz h0<=b/\b≠h3.size) (.word Zg8) 4 (.func (.func 214) #[] #[.pointer t.2.2.2.2.2.2.1.1,.pointer t.2.2.2.2.2.2.1.2.1,.pointer t.2.2.2.2.2.2.1.2.2.1]) h)/\(d 26=true->YD R h3.size (fun b=>sz h0<=b/\b≠h3.size) .text 5 (.func (.func 211) #[] #[.pointer t.2.2.2.2.2.2.2.1.1,.pointer t.2.2.2.2.2.2.2.1.2.1]) h)/\(d 29=true->Row h t.2.2.2.2.2.2.2.2.1 1 (Zg9.map sV)/\inS (fun b=>sz h0<=b/\b≠h3.size) t.2.2.2.2.2.2.2.2.1)/\(d 31=true->YD R h3.size (fun b=>sz h0<=b/\b≠h3.size) (.word Zg9) 6 (.func (.func 214) #[] #[.pointer t.2.2.2.2.2.2.2.2.2.1.1,.pointer t.2.2.2.2.2.2.2.2.2.1.2.1,.pointer t.2.2.2.2.2.2.2.2.2.1.2.2.1]) h)/\(d 35=true->YD R h3.size (fun b=>sz h0<=b/\b≠h3.size) .num 7 (.func (.func 213) #[] #[.pointer t.2.2.2.2.2.2.2.2.2.2.1.1,.pointer t.2.2.2.2.2.2.2.2.2.2.1.2.1]) h)/\(d 39=true->YD R h3.size (fun b=>sz h0<=b/\b≠h3.size) .num 8 (.func (.func 213) #[] #[.pointer t.2.2.2.2.2.2.2.2.2.2.2.1.1,.pointer t.2.2.2.2.2.2.2.2.2.2.2.1.2.1]) h)/\(d 43=true->YD R h3.size (fun b=>sz h0<=b/\b≠h3.size) .yes 9 (.func (.func 212) #[] #[.pointer t.2.2.2.2.2.2.2.2.2.2.2.2.1.1,.pointer t.2.2.2.2.2.2.2.2.2.2.2.2.1.2.1]) h)/\(d 47=true->YD R h3.size (fun b=>sz h0<=b/\b≠h3.size) .num 10 (.func (.func 213) #[] #[.pointer t.2.2.2.2.2.2.2.2.2.2.2.2.2.1.1,.pointer t.2.2.2.2.2.2.2.2.2.2.2.2.2.1.2.1]) h)/\(d 51=true->YD R h3.size (fun b=>sz h0<=b/\b≠h3.size) .yes 11 (.func (.func 212) #[] #[.pointer t.2.2.2.2.2.2.2.2.2.2.2.2.2.2.1.1,.pointer t.2.2.2.2.2.2.2.2.2.2.2.2.2.2.1.2.1]) h)) (none,(none,none,()),(none,none,()),(none,none,()),(none,none,()),⟨none,0,0⟩,(none,none,none,()),(none,none,()),⟨none,0,0⟩,(none,none,none,()),(none,none,()),(none,none,()),(none,none,()),(none,none,()),(none,none,()),()) ⟨Lit.start _ _,(fun e=>by cases e),(fun e=>by cases e),(fun e=>by cases e),(fun e=>by cases e),(fun e=>by cases e),(fun e=>by cases e),(fun e=>by cases e),(fun e=>by cases e),(fun e=>by cases e),(fun e=>by cases e),(fun e=>by cases e),(fun e=>by cases e),(fun e=>by cases e),(fun e=>by cases e)⟩ ?_ ?_
  ·rintro d ⟨s0,s1,s2,s3,s4,s5,s6,s7,s8,s9,s10,s11,s12,s13,s14,⟨⟩⟩ h ⟨L,q5,q9,q13,q17,q20,q22,q26,q29,q31,q35,q39,q43,q47,q51⟩
   refine ⟨?_,?_,?_,?_,?_,?_,?_,?_,?_,?_,?_,?_,?_,?_,?_,?_,?_,?_,?_,?_,?_,?_,?_,?_,?_,?_,?_,trivial⟩
   ·exact fun e0=>L.make e0 (by decide:∀ j,j<12->Yp j≠2) fun mb h' L' e'=>⟨Hv L'.ext,⟨L',fun e=>(q5 e).ext e',fun e=>(q9 e).ext e',fun e=>(q13 e).ext e',fun e=>(q17 e).ext e',fun e=>⟨(q20 e).1.ext e',(q20 e).2⟩,fun e=>(q22 e).ext e',fun e=>(q26 e).ext e',fun e=>⟨(q29 e).1.ext e',(q29 e).2⟩,fun e=>(q31 e).ext e',fun e=>(q35 e).ext e',fun e=>(q39 e).ext e',fun e=>(q43 e).ext e',fun e=>(q47 e).ext e',fun e=>(q51 e).ext e'⟩⟩
   ·exact fun e0  => Zfm fun c1 c2 h' e' z1 z2 _ _ b1 b2=>⟨Hv (L.ext.trans e'),⟨L.call e' (fun g=>g.ext e') (by decide) (by decide:∀ j,j<12->Yp j≠5),fun _=>⟨c1,c2,rfl,⟨wk (Aqp L.ext.size z1),wk (Aqp L.ext.size z2)⟩,b1,b2⟩,fun e=>(q9 e).ext e',fun e=>(q13 e).ext e',fun e=>(q17 e).ext e',fun e=>⟨(q20 e).1.ext e',(q20 e).2⟩,fun e=>(q22 e).ext e',fun e=>(q26 e).ext e',fun e=>⟨(q29 e).1.ext e',(q29 e).2⟩,fun e=>(q31 e).ext e',fun e=>(q35 e).ext e',fun e=>(q39 e).ext e',fun e=>(q43 e).ext e',fun e=>(q47 e).ext e',fun e=>(q51 e).ext e'⟩⟩
   ·exact fun e0 a0 a1=>L.put a0 (j:=0) (a:=[114,101,115,111,117,114,99,101]) (k:= .text) (by kernel_rfl) (by decide:∀ i,i<12->Yp i=Yp 0->i=0) rfl (by decide) (q5 a1) YD.map fun h' L' e' u'=>⟨Hv e',⟨L',fun e=>(q5 e).map u',fun e=>(q9 e).map u',fun e=>(q13 e).map u',fun e=>(q17 e).map u',fun e=>⟨Xo u' (q20 e).1,(q20 e).2⟩,fun e=>(q22 e).map u',fun e=>(q26 e).map u',fun e=>⟨Xo u' (q29 e).1,(q29 e).2⟩,fun e=>(q31 e).map u',fun e=>(q35 e).map u',fun e=>(q39 e).map u',fun e=>(q43 e).map u',fun e=>(q47 e).map u',fun e=>(q51 e).map u'⟩⟩
   ·exact fun e0 a0=>Zfm fun c1 c2 h' e' z1 z2 _ _ b1 b2=>⟨Hv (L.ext.trans e'),⟨L.call e' (fun g=>g.ext e') (by decide) (by decide:∀ j,j<12->Yp j≠9),fun e=>(q5 e).ext e',fun _=>⟨c1,c2,rfl,⟨wk (Aqp L.ext.size z1),wk (Aqp L.ext.size z2)⟩,b1,b2⟩,fun e=>(q13 e).ext e',fun e=>(q17 e).ext e',fun e=>⟨(q20 e).1.ext e',(q20 e).2⟩,fun e=>(q22 e).ext e',fun e=>(q26 e).ext e',fun e=>⟨(q29 e).1.ext e',(q29 e).2⟩,fun e=>(q31 e).ext e',fun e=>(q35 e).ext e',fun e=>(q39 e).ext e',fun e=>(q43 e).ext e',fun e=>(q47 e).ext e',fun e=>(q51 e).ext e'⟩⟩
   ·exact fun e0 a0 a1=>L.put a0 (j:=1) (a:=[111,114,105,103,105,110]) (k:= .text) (by kernel_rfl) (by decide:∀ i,i<12->Yp i=Yp 1->i=1) rfl (by decide) (q9 a1) YD.map fun h' L' e' u'=>⟨Hv e',⟨L',fun e=>(q5 e).map u',fun e=>(q9 e).map u',fun e=>(q13 e).map u',fun e=>(q17 e).map u',fun e=>⟨Xo u' (q20 e).1,(q20 e).2⟩,fun e=>(q22 e).map u',fun e=>(q26 e).map u',fun e=>⟨Xo u' (q29 e).1,(q29 e).2⟩,fun e=>(q31 e).map u',fun e=>(q35 e).map u',fun e=>(q39 e).map u',fun e=>(q43 e).map u',fun e=>(q47 e).map u',fun e=>(q51 e).map u'⟩⟩
   ·exact fun e0 a0=>ZkH fun c1 c2 h' e' z1 z2 _ _ b1 b2=>⟨Hv (L.ext.trans e'),⟨L.call e' (fun g=>g.ext e') (by decide) (by decide:∀ j,j<12->Yp j≠13),fun e=>(q5 e).ext e',fun e=>(q9 e).ext e',fun _=>⟨c1,c2,rfl,⟨wk (Aqp L.ext.size z1),wk (Aqp L.ext.size z2)⟩,b1,b2⟩,fun e=>(q17 e).ext e',fun e=>⟨(q20 e).1.ext e',(q20 e).2⟩,fun e=>(q22 e).ext e',fun e=>(q26 e).ext e',fun e=>⟨(q29 e).1.ext e',(q29 e).2⟩,fun e=>(q31 e).ext e',fun e=>(q35 e).ext e',fun e=>(q39 e).ext e',fun e=>(q43 e).ext e',fun e=>(q47 e).ext e',fun e=>(q51 e).ext e'⟩⟩
   ·exact fun e0 a0 a1=>L.put a0 (j:=2) (a:=[116,104,114,101,97,100,115]) (k:= .yes) (by kernel_rfl) (by decide:∀ i,i<12->Yp i=Yp 2->i=2) rfl (by decide) (q13 a1) YD.map fun h' L' e' u'=>⟨Hv e',⟨L',fun e=>(q5 e).map u',fun e=>(q9 e).map u',fun e=>(q13 e).map u',fun e=>(q17 e).map u',fun e=>⟨Xo u' (q20 e).1,(q20 e).2⟩,fun e=>(q22 e).map u',fun e=>(q26 e).map u',fun e=>⟨Xo u' (q29 e).1,(q29 e).2⟩,fun e=>(q31 e).map u',fun e=>(q35 e).map u',fun e=>(q39 e).map u',fun e=>(q43 e).map u',fun e=>(q47 e).map u',fun e=>(q51 e).map u'⟩⟩
   ·exact fun e0 a0=>Y3 fun c1 c2 h' e' z1 z2 _ _ b1 b2=>⟨Hv (L.ext.trans e'),⟨L.call e' (fun g=>g.ext e') (by decide) (by decide:∀ j,j<12->Yp j≠17),fun e=>(q5 e).ext e',fun e=>(q9 e).ext e',fun e=>(q13 e).ext e',fun _=>⟨c1,c2,rfl,⟨wk (Aqp L.ext.size z1),wk (Aqp L.ext.size z2)⟩,b1,b2⟩,fun e=>⟨(q20 e).1.ext e',(q20 e).2⟩,fun e=>(q22 e).ext e',fun e=>(q26 e).ext e',fun e=>⟨(q29 e).1.ext e',(q29 e).2⟩,fun e=>(q31 e).ext e',fun e=>(q35 e).ext e',fun e=>(q39 e).ext e',fun e=>(q43 e).ext e',fun e=>(q47 e).ext e',fun e=>(q51 e).ext e'⟩⟩
   ·exact fun e0 a0 a1=>L.put a0 (j:=3) (a:=[99,111,117,110,116]) (k:= .num) (by kernel_rfl) (by decide:∀ i,i<12->Yp i=Yp 3->i=3) rfl (by decide) (q17 a1) YD.map fun h' L' e' u'=>⟨Hv e',⟨L',fun e=>(q5 e).map u',fun e=>(q9 e).map u',fun e=>(q13 e).map u',fun e=>(q17 e).map u',fun e=>⟨Xo u' (q20 e).1,(q20 e).2⟩,fun e=>(q22 e).map u',fun e=>(q26 e).map u',fun e=>⟨Xo u' (q29 e).1,(q29 e).2⟩,fun e=>(q31 e).map u',fun e=>(q35 e).map u',fun e=>(q39 e).map u',fun e=>(q43 e).map u',fun e=>(q47 e).map u',fun e=>(q51 e).map u'⟩⟩
   ·exact fun e0 a0=>Zr9 fun x h' e' r' i'=>⟨Hv (L.ext.trans e'),⟨L.call e' (fun g=>g.ext e') (by decide) (by decide:∀ j,j<12->Yp j≠20),fun e=>(q5 e).ext e',fun e=>(q9 e).ext e',fun e=>(q13 e).ext e',fun e=>(q17 e).ext e',fun _=>⟨r',fun y b hb=>wk (Aqp L.ext.size (i' y b hb))⟩,fun e=>(q22 e).ext e',fun e=>(q26 e).ext e',fun e=>⟨(q29 e).1.ext e',(q29 e).2⟩,fun e=>(q31 e).ext e',fun e=>(q35 e).ext e',fun e=>(q39 e).ext e',fun e=>(q43 e).ext e',fun e=>(q47 e).ext e',fun e=>(q51 e).ext e'⟩⟩
   ·exact fun e0 a0 a1=>ZtY fun c1 c2 c3 h' e' z1 z2 z3 b1 b2 b3=>⟨Hv (L.ext.trans e'),⟨L.call e' (fun g=>g.ext e') (by decide) (by decide:∀ j,j<12->Yp j≠22),fun e=>(q5 e).ext e',fun e=>(q9 e).ext e',fun e=>(q13 e).ext e',fun e=>(q17 e).ext e',fun e=>⟨(q20 e).1.ext e',(q20 e).2⟩,fun _=>⟨c1,c2,c3,_,_,rfl,⟨wk (Aqp L.ext.size z1),wk (Aqp L.ext.size z2),wk (Aqp L.ext.size z3)⟩,b1,b2,⟨(q20 a1).1.ext e',(q20 a1).2⟩,.inl ⟨rfl,rfl⟩,b3⟩,fun e=>(q26 e).ext e',fun e=>⟨(q29 e).1.ext e',(q29 e).2⟩,fun e=>(q31 e).ext e',fun e=>(q35 e).ext e',fun e=>(q39 e).ext e',fun e=>(q43 e).ext e',fun e=>(q47 e).ext e',fun e=>(q51 e).ext e'⟩⟩
   ·exact fun e0 a0 a1=>L.put a0 (j:=4) (a:=[115,116,114,97,116,101,103,121]) (k:=(.word Zg8)) (by kernel_rfl) (by decide:∀ i,i<12->Yp i=Yp 4->i=4) rfl (by decide) (q22 a1) YD.map fun h' L' e' u'=>⟨Hv e',⟨L',fun e=>(q5 e).map u',fun e=>(q9 e).map u',fun e=>(q13 e).map u',fun e=>(q17 e).map u',fun e=>⟨Xo u' (q20 e).1,(q20 e).2⟩,fun e=>(q22 e).map u',fun e=>(q26 e).map u',fun e=>⟨Xo u' (q29 e).1,(q29 e).2⟩,fun e=>(q31 e).map u',fun e=>(q35 e).map u',fun e=>(q39 e).map u',fun e=>(q43 e).map u',fun e=>(q47 e).map u',fun e=>(q51 e).map u'⟩⟩
   ·exact fun e0 a0=>Zfm fun c1 c2 h' e' z1 z2 _ _ b1 b2=>⟨Hv (L.ext.trans e'),⟨L.call e' (fun g=>g.ext e') (by decide) (by decide:∀ j,j<12->Yp j≠26),fun e=>(q5 e).ext e',fun e=>(q9 e).ext e',fun e=>(q13 e).ext e',fun e=>(q17 e).ext e',fun e=>⟨(q20 e).1.ext e',(q20 e).2⟩,fun e=>(q22 e).ext e',fun _=>⟨c1,c2,rfl,⟨wk (Aqp L.ext.size z1),wk (Aqp L.ext.size z2)⟩,b1,b2⟩,fun e=>⟨(q29 e).1.ext e',(q29 e).2⟩,fun e=>(q31 e).ext e',fun e=>(q35 e).ext e',fun e=>(q39 e).ext e',fun e=>(q43 e).ext e',fun e=>(q47 e).ext e',fun e=>(q51 e).ext e'⟩⟩
   ·exact fun e0 a0 a1=>L.put a0 (j:=5) (a:=[114,101,102]) (k:= .text) (by kernel_rfl) (by decide:∀ i,i<12->Yp i=Yp 5->i=5) rfl (by decide) (q26 a1) YD.map fun h' L' e' u'=>⟨Hv e',⟨L',fun e=>(q5 e).map u',fun e=>(q9 e).map u',fun e=>(q13 e).map u',fun e=>(q17 e).map u',fun e=>⟨Xo u' (q20 e).1,(q20 e).2⟩,fun e=>(q22 e).map u',fun e=>(q26 e).map u',fun e=>⟨Xo u' (q29 e).1,(q29 e).2⟩,fun e=>(q31 e).map u',fun e=>(q35 e).map u',fun e=>(q39 e).map u',fun e=>(q43 e).map u',fun e=>(q47 e).map u',fun e=>(q51 e).map u'⟩⟩
   ·exact fun e0 a0=>Zsd fun x h' e' r' i'=>⟨Hv (L.ext.trans e'),⟨L.call e' (fun g=>g.ext e') (by decide) (by decide:∀ j,j<12->Yp j≠29),fun e=>(q5 e).ext e',fun e=>(q9 e).ext e',fun e=>(q13 e).ext e',fun e=>(q17 e).ext e',fun e=>⟨(q20 e).1.ext e',(q20 e).2⟩,fun e=>(q22 e).ext e',fun e=>(q26 e).ext e',fun _=>⟨r',fun y b hb=>wk (Aqp L.ext.size (i' y b hb))⟩,fun e=>(q31 e).ext e',fun e=>(q35 e).ext e',fun e=>(q39 e).ext e',fun e=>(q43 e).ext e',fun e=>(q47 e).ext e',fun e=>(q51 e).ext e'⟩⟩
   ·exact fun e0 a0 a1=>ZtX fun c1 c2 c3 h' e' z1 z2 z3 b1 b2 b3=>⟨Hv (L.ext.trans e'),⟨L.call e' (fun g=>g.ext e') (by decide) (by decide:∀ j,j<12->Yp j≠31),fun e=>(q5 e).ext e',fun e=>(q9 e).ext e',fun e=>(q13 e).ext e',fun e=>(q17 e).ext e',fun e=>⟨(q20 e).1.ext e',(q20 e).2⟩,fun e=>(q22 e).ext e',fun e=>(q26 e).ext e',fun e=>⟨(q29 e).1.ext e',(q29 e).2⟩,fun _=>⟨c1,c2,c3,_,_,rfl,⟨wk (Aqp L.ext.size z1),wk (Aqp L.ext.size z2),wk (Aqp L.ext.size z3)⟩,b1,b2,⟨(q29 a1).1.ext e',(q29 a1).2⟩,.inr (.inl ⟨rfl,rfl⟩),b3⟩,fun e=>(q35 e).ext e',fun e=>(q39 e).ext e',fun e=>(q43 e).ext e',fun e=>(q47 e).ext e',fun e=>(q51 e).ext e'⟩⟩
   ·exact fun e0 a0 a1=>L.put a0 (j:=6) (a:=[115,104,97,112,101]) (k:=(.word Zg9)) (by kernel_rfl) (by decide:∀ i,i<12->Yp i=Yp 6->i=6) rfl (by decide) (q31 a1) YD.map fun h' L' e' u'=>⟨Hv e',⟨L',fun e=>(q5 e).map u',fun e=>(q9 e).map u',fun e=>(q13 e).map u',fun e=>(q17 e).map u',fun e=>⟨Xo u' (q20 e).1,(q20 e).2⟩,fun e=>(q22 e).map u',fun e=>(q26 e).map u',fun e=>⟨Xo u' (q29 e).1,(q29 e).2⟩,fun e=>(q31 e).map u',fun e=>(q35 e).map u',fun e=>(q39 e).map u',fun e=>(q43 e).map u',fun e=>(q47 e).map u',fun e=>(q51 e).map u'⟩⟩
   ·exact fun e0 a0=>Y3 fun c1 c2 h' e' z1 z2 _ _ b1 b2=>⟨Hv (L.ext.trans e'),⟨L.call e' (fun g=>g.ext e') (by decide) (by decide:∀ j,j<12->Yp j≠35),fun e=>(q5 e).ext e',fun e=>(q9 e).ext e',fun e=>(q13 e).ext e',fun e=>(q17 e).ext e',fun e=>⟨(q20 e).1.ext e',(q20 e).2⟩,fun e=>(q22 e).ext e',fun e=>(q26 e).ext e',fun e=>⟨(q29 e).1.ext e',(q29 e).2⟩,fun e=>(q31 e).ext e',fun _=>⟨c1,c2,rfl,⟨wk (Aqp L.ext.size z1),wk (Aqp L.ext.size z2)⟩,b1,b2⟩,fun e=>(q39 e).ext e',fun e=>(q43 e).ext e',fun e=>(q47 e).ext e',fun e=>(q51 e).ext e'⟩⟩
   ·exact fun e0 a0 a1=>L.put a0 (j:=7) (a:=[119,97,114,109]) (k:= .num) (by kernel_rfl) (by decide:∀ i,i<12->Yp i=Yp 7->i=7) rfl (by decide) (q35 a1) YD.map fun h' L' e' u'=>⟨Hv e',⟨L',fun e=>(q5 e).map u',fun e=>(q9 e).map u',fun e=>(q13 e).map u',fun e=>(q17 e).map u',fun e=>⟨Xo u' (q20 e).1,(q20 e).2⟩,fun e=>(q22 e).map u',fun e=>(q26 e).map u',fun e=>⟨Xo u' (q29 e).1,(q29 e).2⟩,fun e=>(q31 e).map u',fun e=>(q35 e).map u',fun e=>(q39 e).map u',fun e=>(q43 e).map u',fun e=>(q47 e).map u',fun e=>(q51 e).map u'⟩⟩
   ·exact fun e0 a0=>Y3 fun c1 c2 h' e' z1 z2 _ _ b1 b2=>⟨Hv (L.ext.trans e'),⟨L.call e' (fun g=>g.ext e') (by decide) (by decide:∀ j,j<12->Yp j≠39),fun e=>(q5 e).ext e',fun e=>(q9 e).ext e',fun e=>(q13 e).ext e',fun e=>(q17 e).ext e',fun e=>⟨(q20 e).1.ext e',(q20 e).2⟩,fun e=>(q22 e).ext e',fun e=>(q26 e).ext e',fun e=>⟨(q29 e).1.ext e',(q29 e).2⟩,fun e=>(q31 e).ext e',fun e=>(q35 e).ext e',fun _=>⟨c1,c2,rfl,⟨wk (Aqp L.ext.size z1),wk (Aqp L.ext.size z2)⟩,b1,b2⟩,fun e=>(q43 e).ext e',fun e=>(q47 e).ext e',fun e=>(q51 e).ext e'⟩⟩
   ·exact fun e0 a0 a1=>L.put a0 (j:=8) (a:=[113,117,101,117,101]) (k:= .num) (by kernel_rfl) (by decide:∀ i,i<12->Yp i=Yp 8->i=8) rfl (by decide) (q39 a1) YD.map fun h' L' e' u'=>⟨Hv e',⟨L',fun e=>(q5 e).map u',fun e=>(q9 e).map u',fun e=>(q13 e).map u',fun e=>(q17 e).map u',fun e=>⟨Xo u' (q20 e).1,(q20 e).2⟩,fun e=>(q22 e).map u',fun e=>(q26 e).map u',fun e=>⟨Xo u' (q29 e).1,(q29 e).2⟩,fun e=>(q31 e).map u',fun e=>(q35 e).map u',fun e=>(q39 e).map u',fun e=>(q43 e).map u',fun e=>(q47 e).map u',fun e=>(q51 e).map u'⟩⟩
   ·exact fun e0 a0=>ZkH fun c1 c2 h' e' z1 z2 _ _ b1 b2=>⟨Hv (L.ext.trans e'),⟨L.call e' (fun g=>g.ext e') (by decide) (by decide:∀ j,j<12->Yp j≠43),fun e=>(q5 e).ext e',fun e=>(q9 e).ext e',fun e=>(q13 e).ext e',fun e=>(q17 e).ext e',fun e=>⟨(q20 e).1.ext e',(q20 e).2⟩,fun e=>(q22 e).ext e',fun e=>(q26 e).ext e',fun e=>⟨(q29 e).1.ext e',(q29 e).2⟩,fun e=>(q31 e).ext e',fun e=>(q35 e).ext e',fun e=>(q39 e).ext e',fun _=>⟨c1,c2,rfl,⟨wk (Aqp L.ext.size z1),wk (Aqp L.ext.size z2)⟩,b1,b2⟩,fun e=>(q47 e).ext e',fun e=>(q51 e).ext e'⟩⟩
   ·exact fun e0 a0 a1=>L.put a0 (j:=9) (a:=[99,108,117,115,116,101,114]) (k:= .yes) (by kernel_rfl) (by decide:∀ i,i<12->Yp i=Yp 9->i=9) rfl (by decide) (q43 a1) YD.map fun h' L' e' u'=>⟨Hv e',⟨L',fun e=>(q5 e).map u',fun e=>(q9 e).map u',fun e=>(q13 e).map u',fun e=>(q17 e).map u',fun e=>⟨Xo u' (q20 e).1,(q20 e).2⟩,fun e=>(q22 e).map u',fun e=>(q26 e).map u',fun e=>⟨Xo u' (q29 e).1,(q29 e).2⟩,fun e=>(q31 e).map u',fun e=>(q35 e).map u',fun e=>(q39 e).map u',fun e=>(q43 e).map u',fun e=>(q47 e).map u',fun e=>(q51 e).map u'⟩⟩
   ·exact fun e0 a0=>Y3 fun c1 c2 h' e' z1 z2 _ _ b1 b2=>⟨Hv (L.ext.trans e'),⟨L.call e' (fun g=>g.ext e') (by decide) (by decide:∀ j,j<12->Yp j≠47),fun e=>(q5 e).ext e',fun e=>(q9 e).ext e',fun e=>(q13 e).ext e',fun e=>(q17 e).ext e',fun e=>⟨(q20 e).1.ext e',(q20 e).2⟩,fun e=>(q22 e).ext e',fun e=>(q26 e).ext e',fun e=>⟨(q29 e).1.ext e',(q29 e).2⟩,fun e=>(q31 e).ext e',fun e=>(q35 e).ext e',fun e=>(q39 e).ext e',fun e=>(q43 e).ext e',fun _=>⟨c1,c2,rfl,⟨wk (Aqp L.ext.size z1),wk (Aqp L.ext.size z2)⟩,b1,b2⟩,fun e=>(q51 e).ext e'⟩⟩
   ·exact fun e0 a0 a1=>L.put a0 (j:=10) (a:=[105,100]) (k:= .num) (by kernel_rfl) (by decide:∀ i,i<12->Yp i=Yp 10->i=10) rfl (by decide) (q47 a1) YD.map fun h' L' e' u'=>⟨Hv e',⟨L',fun e=>(q5 e).map u',fun e=>(q9 e).map u',fun e=>(q13 e).map u',fun e=>(q17 e).map u',fun e=>⟨Xo u' (q20 e).1,(q20 e).2⟩,fun e=>(q22 e).map u',fun e=>(q26 e).map u',fun e=>⟨Xo u' (q29 e).1,(q29 e).2⟩,fun e=>(q31 e).map u',fun e=>(q35 e).map u',fun e=>(q39 e).map u',fun e=>(q43 e).map u',fun e=>(q47 e).map u',fun e=>(q51 e).map u'⟩⟩
   ·exact fun e0 a0=>ZkH fun c1 c2 h' e' z1 z2 _ _ b1 b2=>⟨Hv (L.ext.trans e'),⟨L.call e' (fun g=>g.ext e') (by decide) (by decide:∀ j,j<12->Yp j≠51),fun e=>(q5 e).ext e',fun e=>(q9 e).ext e',fun e=>(q13 e).ext e',fun e=>(q17 e).ext e',fun e=>⟨(q20 e).1.ext e',(q20 e).2⟩,fun e=>(q22 e).ext e',fun e=>(q26 e).ext e',fun e=>⟨(q29 e).1.ext e',(q29 e).2⟩,fun e=>(q31 e).ext e',fun e=>(q35 e).ext e',fun e=>(q39 e).ext e',fun e=>(q43 e).ext e',fun e=>(q47 e).ext e',fun _=>⟨c1,c2,rfl,⟨wk (Aqp L.ext.size z1),wk (Aqp L.ext.size z2)⟩,b1,b2⟩⟩⟩
   ·exact fun e0 a0 a1=>L.put a0 (j:=11) (a:=[102,97,108,108,98,97,99,107]) (k:= .yes) (by kernel_rfl) (by decide:∀ i,i<12->Yp i=Yp 11->i=11) rfl (by decide) (q51 a1) YD.map fun h' L' e' u'=>⟨Hv e',⟨L',fun e=>(q5 e).map u',fun e=>(q9 e).map u',fun e=>(q13 e).map u',fun e=>(q17 e).map u',fun e=>⟨Xo u' (q20 e).1,(q20 e).2⟩,fun e=>(q22 e).map u',fun e=>(q26 e).map u',fun e=>⟨Xo u' (q29 e).1,(q29 e).2⟩,fun e=>(q31 e).map u',fun e=>(q35 e).map u',fun e=>(q39 e).map u',fun e=>(q43 e).map u',fun e=>(q47 e).map u',fun e=>(q51 e).map u'⟩⟩
  ·rintro d ⟨s0,s1,s2,s3,s4,s5,s6,s7,s8,s9,s10,s11,s12,s13,s14,⟨⟩⟩ h ⟨L,q5,q9,q13,q17,q20,q22,q26,q29,q31,q35,q39,q43,q47,q51⟩
   intro d2 d5 d6 d9 d10 d13 d14 d17 d18 d20 d22 d23 d26 d27 d29 d31 d32 d35 d36 d39 d40 d43 d44 d47 d48 d51 d52
   refine ⟨Hv L.ext,?_⟩
   obtain ⟨mb,f,n,cls,rfl,hmb,hm,hf,hG⟩:=L.all d2 (fun j hj=>match j,hj with
     | 0,_=>d6
     | 1,_=>d10
     | 2,_=>d14
     | 3,_=>d18
     | 4,_=>d23
     | 5,_=>d27
     | 6,_=>d32
     | 7,_=>d36
     | 8,_=>d40
     | 9,_=>d44
     | 10,_=>d48
     | 11,_=>d52
     | k+12,hj=>absurd hj (Azt.2 (Azu 12 k)))
   have hh:Ext h0 h:=exs.trans L.ext
   have szh:sz hs<=sz h:=L.ext.size
   have cr2:=Zl cr L.ext
   have czh:=Zl cz L.ext
   refine ⟨1,?_⟩
   refine Zm0 (f165:=ZF 0) (F:=Zmn) (m0:=Zp8) (S:=S) (B:=h3.size) (T:=75) (W:=fun b=>sz h0<=b/\b≠h3.size) (.inl ZxO) rfl ZxN (er.ext hh) (Zsg cr2 hlf) (by omega) (fun b hb=>⟨by omega,hb.2⟩) r9 (by omega) hm hf ⟨by omega,by omega⟩ hG (ht.ext hh)
     (hv.keep (fun b _ hl=>Zq hh hl) fun _ h=>h) (fun b hb=>by obtain ⟨y1,y2⟩:=hS b hb;exact ⟨by omega,y2,by omega⟩) hw (fun m h' hq hs r e' u=>?_) fun e m h' hq hn hs r e' u=>?_
   ·have em:m=(Zjl m).mv:=Zry (Zhu hs)
    obtain ⟨f,hf⟩:∃ f,f=Zjl m:=⟨_,rfl⟩
    rw [<- hf] at em
    rw [em] at r
    have c:=ZgH r (by intro y hy;simp only [FlowP.mv,Awr,Azi,or_false] at hy;rcases hy with rfl | rfl | rfl | rfl | rfl | rfl | rfl | rfl | rfl | rfl | rfl | rfl<;>(show (_:Nat)<4;simp [mk]))
    have czf:=ZB czh u (by rintro (e | e | e)<;>omega)
    have szf:sz h<=sz h':=u.size
    refine rS (Zb c rfl) (rS (Zb c rfl) (rBl (Zb c rfl) (rI (Zb c rfl) (rI (Zb c rfl) (rS (Zb c rfl) (rI (Zb c rfl) (rI (Zb c rfl) (rI (Zb c rfl) (rBl (Zb c rfl) (rI (Zb c rfl) (rBl (Zb c rfl) (ZeW czf (by show 12<=12;omega) rfl fun h2 c2 u2 z2=>rS (Zb c2 rfl) (rS (Zb c2 rfl) (rBl (Zb c2 rfl) (rI (Zb c2 rfl) (rI (Zb c2 rfl) (rS (Zb c2 rfl) (rI (Zb c2 rfl) (rI (Zb c2 rfl) (rI (Zb c2 rfl) (rBl (Zb c2 rfl) (rI (Zb c2 rfl) (rBl (Zb c2 rfl) (ok f h2 ?_ ?_ ?_))))))))))))))))))))))))
    ·exact by unfold ZaP;rw [hq,hf];rfl
    ·exact e'.upd u2 fun e=>by omega
    ·exact UT (UT (hh.upd _) u fun k hk=>by rcases hk with e | e | e<;>omega) u2 fun k hk=> .inr (by omega)
   ·have em:m=(Zjl m).mv:=Zry (Zhu hs)
    obtain ⟨f,hf⟩:∃ f,f=Zjl m:=⟨_,rfl⟩
    rw [<- hf] at em
    rw [em] at r
    have c:=ZgH r (by intro y hy;simp only [FlowP.mv,Awr,Azi,or_false] at hy;rcases hy with rfl | rfl | rfl | rfl | rfl | rfl | rfl | rfl | rfl | rfl | rfl | rfl<;>(show (_:Nat)<4;simp [mk]))
    have czf:=ZB czh u (by rintro (e | e | e)<;>omega)
    have szf:sz h<=sz h':=u.size
    refine rS (Zb c rfl) (rS (Zb c rfl) (rBl (Zb c rfl) (rI (Zb c rfl) (rI (Zb c rfl) (rS (Zb c rfl) (rI (Zb c rfl) (rI (Zb c rfl) (rI (Zb c rfl) (rBl (Zb c rfl) (rI (Zb c rfl) (rBl (Zb c rfl) (ZeW czf (by show 12<=12;omega) rfl fun h2 c2 u2 z2=>rS (Zb c2 rfl) (rS (Zb c2 rfl) (rBl (Zb c2 rfl) (rI (Zb c2 rfl) (rI (Zb c2 rfl) (rS (Zb c2 rfl) (rI (Zb c2 rfl) (rI (Zb c2 rfl) (rI (Zb c2 rfl) (rBl (Zb c2 rfl) (rI (Zb c2 rfl) (rBl (Zb c2 rfl) (bad e f h2 ?_ hn ?_ ?_))))))))))))))))))))))))
    ·exact by unfold ZaP;rw [hq];rfl
    ·exact e'.upd u2 fun e=>by omega
    ·exact UT (UT (hh.upd _) u fun k hk=>by rcases hk with e | e | e<;>omega) u2 fun k hk=> .inr (by omega)
theorem Zui:∀ a j,Zbs a Ziq 0≠some (j,.items):=fun a j h=>by
  have:=Axq (Y2 h)
  simp [Ziq] at this
theorem Zuh:ZDK Ziq Zkj:=fun a j k h=>by
  have:=Axq (Y2 h)
  simp only [Ziq,Awr,Prod.mk.injEq,Azi,or_false] at this
  rcases this with ⟨_,rfl⟩ | ⟨_,rfl⟩ | ⟨_,rfl⟩ | ⟨_,rfl⟩ | ⟨_,rfl⟩ | ⟨_,rfl⟩ | ⟨_,rfl⟩<;>first
    | trivial
    | (show _<=255;decide)
def Y5:Nat->Nat:=fun j=>([6,11,15,19,23,27,31]:List Nat).getD j 1000
set_option maxRecDepth 4000 in
set_option maxHeartbeats 2000000 in
theorem Zz9 {h0:Zc} {R:Nat} (er:Er h0 R 0) (r9:9<=R) (ht:ZaN h0) (h9:9<=sz h0) {z:VT5} {v:JV} {S:Nat->Prop} (hv:Zam h0 S z v) (hS:∀ b,S b->b<sz h0/\b≠R) (hw:wV v<=1000000000000) {K:(ByteArray × Int × Int × Int × Int × Int × Int × Unit)->HP}
    (ok:∀ f h',X7 v = .ok f->Er h' R 0->Upd (· = R) h0 h'->K (Zs7 f) h') (bad:∀ e f h',X7 v = .error e->e≠0->Er h' R e->Upd (· = R) h0 h'->K (Zs7 f) h'):XB (At R) z K h0:=by
  unfold XB Zbp
  refine YX fun h1 c1 e0 z0=>YX fun h3 c2 e1 z1=>YX fun h5 c3 e2 z2=>?_
  have s_h0:sz h0=h0.size:=rfl
  have s_h1:sz h1=h1.size:=rfl
  have s_h3:sz h3=h3.size:=rfl
  have s_h5:sz h5=h5.size:=rfl
  have hR:=er.lt
  have ex0:Ext h0 h1:=e0
  have ex1:Ext h0 h3:=ex0.trans e1
  have ex2:Ext h0 h5:=ex1.trans e2
  have cv5:obj h5 h0.size=some (.cells (Xl z).toArray 33 (0,0)):=Zl (Zl c1 e1) e2
  have cz5:obj h5 h1.size=some (.cells [.string (ByteArray.mk #[]),.int .u8 0,.int .i64 0,.int .i64 0,.int .i64 0,.int .i64 0,.int .i64 0].toArray 80 (0,0)):=Zl c2 e2
  have cv:=cv5
  have cz:=cz5
  have cr:obj h5 h3.size=some (.cells (Zkj.map ZfB).toArray 80 (0,0)):=c3.trans (by kernel_rfl)
  have hlf:∀ x,x∈Zkj->mk x<4:=by decide +kernel
  have Hv:∀ {h':Zc},Ext h5 h'->Z9 h' [(h0.size,0,.int .u8 z.1),(h0.size,0+1,.string z.2.1),(h0.size,0+2,.slice z.2.2.1.ptr z.2.2.1.len z.2.2.1.cap),(h0.size,0+3,.slice z.2.2.2.1.ptr z.2.2.2.1.len z.2.2.2.1.cap)]:=fun e=>ZpY (Zl cv e)
  have wk:∀ {c:Nat},sz h5<=c->sz h0<=c/\c≠h3.size:=fun h=>⟨by omega,by omega⟩
  refine rI (Zb cv rfl) (rS (Zb cv rfl) (rL (s:=z.2.2.1) (Zb cv rfl) (rL (s:=z.2.2.2.1) (Zb cv rfl) (?_))))
  refine Zds (fun d t h=>Lit (YD R h3.size (fun b=>sz h0<=b/\b≠h3.size)) Ziq 2 Y5 h5 d t.1 h/\(d 5=true->YD R h3.size (fun b=>sz h0<=b/\b≠h3.size) .text 0 (.func (.func 211) #[] #[.pointer t.2.1.1,.pointer t.2.1.2.1]) h)/\(d 8=true->Row h t.2.2.1 1 (Zhf.map sV)/\inS (fun b=>sz h0<=b/\b≠h3.size) t.2.2.1)/\(d 10=true->YD R h3.size (fun b=>sz h0<=b/\b≠h3.size) (.word Zhf) 1 (.func (.func 214) #[] #[.pointer t.2.2.2.1.1,.pointer t.2.2.2.1.2.1,.pointer t.2.2.2.1.2.2.1]) h)/\(d 14=true->YD R h3.size (fun b=>sz h0<=b/\b≠h3.size) .num 2 (.func (.func 213) #[] #[.pointer t.2.2.2.2.1.1,.pointer t.2.2.2.2.1.2.1]) h)/\(d 18=true->YD R h3.size (fun b=>sz h0<=b/\b≠h3.size) .num 3 (.func (.func 213) #[] #[.pointer t.2.2.2.2.2.1.1,.pointer t.2.2.2.2.2.1.2.1]) h)/\(d 22=true->YD R h3.size (fun b=>sz h0<=b/\b≠h3.size) .num 4 (.func (.func 213) #[] #[.pointer t.2.2.2.2.2.2.1.1,.pointer t.2.2.2.2.2.2.1.2.1]) h)/\(d 26=true->YD R h3.size (fun b=>sz h0<=b/\b≠h3.size) .num 5 (.func (.func 213) #[] #[.pointer t.2.2.2.2.2.2.2.1.1,.pointer t.2.2.2.2.2.2.2.1.2.1]) h)/\(d 30=true->YD R h3.size (fun b=>sz h0<=b/\b≠h3.size) .num 6 (.func (.func 213) #[] #[.pointer t.2.2.2.2.2.2.2.2.1.1,.pointer t.2.2.2.2.2.2.2.2.1.2.1]) h)) (none,(none,none,()),⟨none,0,0⟩,(none,none,none,()),(none,none,()),(none,none,()),(none,none,()),(none,none,()),(none,none,()),()) ⟨Lit.start _ _,(fun e=>by cases e),(fun e=>by cases e),(fun e=>by cases e),(fun e=>by cases e),(fun e=>by cases e),(fun e=>by cases e),(fun e=>by cases e),(fun e=>by cases e)⟩ ?_ ?_
  ·rintro d ⟨s0,s1,s2,s3,s4,s5,s6,s7,s8,⟨⟩⟩ h ⟨L,q5,q8,q10,q14,q18,q22,q26,q30⟩
   refine ⟨?_,?_,?_,?_,?_,?_,?_,?_,?_,?_,?_,?_,?_,?_,?_,?_,trivial⟩
   ·exact fun e0=>L.make e0 (by decide:∀ j,j<7->Y5 j≠2) fun mb h' L' e'=>⟨Hv L'.ext,⟨L',fun e=>(q5 e).ext e',fun e=>⟨(q8 e).1.ext e',(q8 e).2⟩,fun e=>(q10 e).ext e',fun e=>(q14 e).ext e',fun e=>(q18 e).ext e',fun e=>(q22 e).ext e',fun e=>(q26 e).ext e',fun e=>(q30 e).ext e'⟩⟩
   ·exact fun e0  => Zfm fun c1 c2 h' e' z1 z2 _ _ b1 b2=>⟨Hv (L.ext.trans e'),⟨L.call e' (fun g=>g.ext e') (by decide) (by decide:∀ j,j<7->Y5 j≠5),fun _=>⟨c1,c2,rfl,⟨wk (Aqp L.ext.size z1),wk (Aqp L.ext.size z2)⟩,b1,b2⟩,fun e=>⟨(q8 e).1.ext e',(q8 e).2⟩,fun e=>(q10 e).ext e',fun e=>(q14 e).ext e',fun e=>(q18 e).ext e',fun e=>(q22 e).ext e',fun e=>(q26 e).ext e',fun e=>(q30 e).ext e'⟩⟩
   ·exact fun e0 a0 a1=>L.put a0 (j:=0) (a:=[114,101,115,111,117,114,99,101]) (k:= .text) (by kernel_rfl) (by decide:∀ i,i<7->Y5 i=Y5 0->i=0) rfl (by decide) (q5 a1) YD.map fun h' L' e' u'=>⟨Hv e',⟨L',fun e=>(q5 e).map u',fun e=>⟨Xo u' (q8 e).1,(q8 e).2⟩,fun e=>(q10 e).map u',fun e=>(q14 e).map u',fun e=>(q18 e).map u',fun e=>(q22 e).map u',fun e=>(q26 e).map u',fun e=>(q30 e).map u'⟩⟩
   ·exact fun e0 a0=>ZsO fun x h' e' r' i'=>⟨Hv (L.ext.trans e'),⟨L.call e' (fun g=>g.ext e') (by decide) (by decide:∀ j,j<7->Y5 j≠8),fun e=>(q5 e).ext e',fun _=>⟨r',fun y b hb=>wk (Aqp L.ext.size (i' y b hb))⟩,fun e=>(q10 e).ext e',fun e=>(q14 e).ext e',fun e=>(q18 e).ext e',fun e=>(q22 e).ext e',fun e=>(q26 e).ext e',fun e=>(q30 e).ext e'⟩⟩
   ·exact fun e0 a0 a1=>ZpL fun c1 c2 c3 h' e' z1 z2 z3 b1 b2 b3=>⟨Hv (L.ext.trans e'),⟨L.call e' (fun g=>g.ext e') (by decide) (by decide:∀ j,j<7->Y5 j≠10),fun e=>(q5 e).ext e',fun e=>⟨(q8 e).1.ext e',(q8 e).2⟩,fun _=>⟨c1,c2,c3,_,_,rfl,⟨wk (Aqp L.ext.size z1),wk (Aqp L.ext.size z2),wk (Aqp L.ext.size z3)⟩,b1,b2,⟨(q8 a1).1.ext e',(q8 a1).2⟩,.inr (.inr ⟨rfl,rfl⟩),b3⟩,fun e=>(q14 e).ext e',fun e=>(q18 e).ext e',fun e=>(q22 e).ext e',fun e=>(q26 e).ext e',fun e=>(q30 e).ext e'⟩⟩
   ·exact fun e0 a0 a1=>L.put a0 (j:=1) (a:=[103,114,97,100,101]) (k:=(.word Zhf)) (by kernel_rfl) (by decide:∀ i,i<7->Y5 i=Y5 1->i=1) rfl (by decide) (q10 a1) YD.map fun h' L' e' u'=>⟨Hv e',⟨L',fun e=>(q5 e).map u',fun e=>⟨Xo u' (q8 e).1,(q8 e).2⟩,fun e=>(q10 e).map u',fun e=>(q14 e).map u',fun e=>(q18 e).map u',fun e=>(q22 e).map u',fun e=>(q26 e).map u',fun e=>(q30 e).map u'⟩⟩
   ·exact fun e0 a0=>Y3 fun c1 c2 h' e' z1 z2 _ _ b1 b2=>⟨Hv (L.ext.trans e'),⟨L.call e' (fun g=>g.ext e') (by decide) (by decide:∀ j,j<7->Y5 j≠14),fun e=>(q5 e).ext e',fun e=>⟨(q8 e).1.ext e',(q8 e).2⟩,fun e=>(q10 e).ext e',fun _=>⟨c1,c2,rfl,⟨wk (Aqp L.ext.size z1),wk (Aqp L.ext.size z2)⟩,b1,b2⟩,fun e=>(q18 e).ext e',fun e=>(q22 e).ext e',fun e=>(q26 e).ext e',fun e=>(q30 e).ext e'⟩⟩
   ·exact fun e0 a0 a1=>L.put a0 (j:=2) (a:=[99,111,117,110,116]) (k:= .num) (by kernel_rfl) (by decide:∀ i,i<7->Y5 i=Y5 2->i=2) rfl (by decide) (q14 a1) YD.map fun h' L' e' u'=>⟨Hv e',⟨L',fun e=>(q5 e).map u',fun e=>⟨Xo u' (q8 e).1,(q8 e).2⟩,fun e=>(q10 e).map u',fun e=>(q14 e).map u',fun e=>(q18 e).map u',fun e=>(q22 e).map u',fun e=>(q26 e).map u',fun e=>(q30 e).map u'⟩⟩
   ·exact fun e0 a0=>Y3 fun c1 c2 h' e' z1 z2 _ _ b1 b2=>⟨Hv (L.ext.trans e'),⟨L.call e' (fun g=>g.ext e') (by decide) (by decide:∀ j,j<7->Y5 j≠18),fun e=>(q5 e).ext e',fun e=>⟨(q8 e).1.ext e',(q8 e).2⟩,fun e=>(q10 e).ext e',fun e=>(q14 e).ext e',fun _=>⟨c1,c2,rfl,⟨wk (Aqp L.ext.size z1),wk (Aqp L.ext.size z2)⟩,b1,b2⟩,fun e=>(q22 e).ext e',fun e=>(q26 e).ext e',fun e=>(q30 e).ext e'⟩⟩
   ·exact fun e0 a0 a1=>L.put a0 (j:=3) (a:=[115,108,111,119]) (k:= .num) (by kernel_rfl) (by decide:∀ i,i<7->Y5 i=Y5 3->i=3) rfl (by decide) (q18 a1) YD.map fun h' L' e' u'=>⟨Hv e',⟨L',fun e=>(q5 e).map u',fun e=>⟨Xo u' (q8 e).1,(q8 e).2⟩,fun e=>(q10 e).map u',fun e=>(q14 e).map u',fun e=>(q18 e).map u',fun e=>(q22 e).map u',fun e=>(q26 e).map u',fun e=>(q30 e).map u'⟩⟩
   ·exact fun e0 a0=>Y3 fun c1 c2 h' e' z1 z2 _ _ b1 b2=>⟨Hv (L.ext.trans e'),⟨L.call e' (fun g=>g.ext e') (by decide) (by decide:∀ j,j<7->Y5 j≠22),fun e=>(q5 e).ext e',fun e=>⟨(q8 e).1.ext e',(q8 e).2⟩,fun e=>(q10 e).ext e',fun e=>(q14 e).ext e',fun e=>(q18 e).ext e',fun _=>⟨c1,c2,rfl,⟨wk (Aqp L.ext.size z1),wk (Aqp L.ext.size z2)⟩,b1,b2⟩,fun e=>(q26 e).ext e',fun e=>(q30 e).ext e'⟩⟩
   ·exact fun e0 a0 a1=>L.put a0 (j:=4) (a:=[108,101,97,115,116]) (k:= .num) (by kernel_rfl) (by decide:∀ i,i<7->Y5 i=Y5 4->i=4) rfl (by decide) (q22 a1) YD.map fun h' L' e' u'=>⟨Hv e',⟨L',fun e=>(q5 e).map u',fun e=>⟨Xo u' (q8 e).1,(q8 e).2⟩,fun e=>(q10 e).map u',fun e=>(q14 e).map u',fun e=>(q18 e).map u',fun e=>(q22 e).map u',fun e=>(q26 e).map u',fun e=>(q30 e).map u'⟩⟩
   ·exact fun e0 a0=>Y3 fun c1 c2 h' e' z1 z2 _ _ b1 b2=>⟨Hv (L.ext.trans e'),⟨L.call e' (fun g=>g.ext e') (by decide) (by decide:∀ j,j<7->Y5 j≠26),fun e=>(q5 e).ext e',fun e=>⟨(q8 e).1.ext e',(q8 e).2⟩,fun e=>(q10 e).ext e',fun e=>(q14 e).ext e',fun e=>(q18 e).ext e',fun e=>(q22 e).ext e',fun _=>⟨c1,c2,rfl,⟨wk (Aqp L.ext.size z1),wk (Aqp L.ext.size z2)⟩,b1,b2⟩,fun e=>(q30 e).ext e'⟩⟩
   ·exact fun e0 a0 a1=>L.put a0 (j:=5) (a:=[119,105,110,100,111,119]) (k:= .num) (by kernel_rfl) (by decide:∀ i,i<7->Y5 i=Y5 5->i=5) rfl (by decide) (q26 a1) YD.map fun h' L' e' u'=>⟨Hv e',⟨L',fun e=>(q5 e).map u',fun e=>⟨Xo u' (q8 e).1,(q8 e).2⟩,fun e=>(q10 e).map u',fun e=>(q14 e).map u',fun e=>(q18 e).map u',fun e=>(q22 e).map u',fun e=>(q26 e).map u',fun e=>(q30 e).map u'⟩⟩
   ·exact fun e0 a0=>Y3 fun c1 c2 h' e' z1 z2 _ _ b1 b2=>⟨Hv (L.ext.trans e'),⟨L.call e' (fun g=>g.ext e') (by decide) (by decide:∀ j,j<7->Y5 j≠30),fun e=>(q5 e).ext e',fun e=>⟨(q8 e).1.ext e',(q8 e).2⟩,fun e=>(q10 e).ext e',fun e=>(q14 e).ext e',fun e=>(q18 e).ext e',fun e=>(q22 e).ext e',fun e=>(q26 e).ext e',fun _=>⟨c1,c2,rfl,⟨wk (Aqp L.ext.size z1),wk (Aqp L.ext.size z2)⟩,b1,b2⟩⟩⟩
   ·exact fun e0 a0 a1=>L.put a0 (j:=6) (a:=[114,101,99,111,118,101,114]) (k:= .num) (by kernel_rfl) (by decide:∀ i,i<7->Y5 i=Y5 6->i=6) rfl (by decide) (q30 a1) YD.map fun h' L' e' u'=>⟨Hv e',⟨L',fun e=>(q5 e).map u',fun e=>⟨Xo u' (q8 e).1,(q8 e).2⟩,fun e=>(q10 e).map u',fun e=>(q14 e).map u',fun e=>(q18 e).map u',fun e=>(q22 e).map u',fun e=>(q26 e).map u',fun e=>(q30 e).map u'⟩⟩
  ·rintro d ⟨s0,s1,s2,s3,s4,s5,s6,s7,s8,⟨⟩⟩ h ⟨L,q5,q8,q10,q14,q18,q22,q26,q30⟩
   intro d2 d5 d6 d8 d10 d11 d14 d15 d18 d19 d22 d23 d26 d27 d30 d31
   refine ⟨Hv L.ext,?_⟩
   obtain ⟨mb,f,n,cls,rfl,hmb,hm,hf,hG⟩:=L.all d2 (fun j hj=>match j,hj with
     | 0,_=>d6
     | 1,_=>d11
     | 2,_=>d15
     | 3,_=>d19
     | 4,_=>d23
     | 5,_=>d27
     | 6,_=>d31
     | k+7,hj=>absurd hj (Azt.2 (Azu 7 k)))
   have hh:Ext h0 h:=ex2.trans L.ext
   have szh:sz h5<=sz h:=L.ext.size
   have cr2:=Zl cr L.ext
   have czh:=Zl cz L.ext
   refine ⟨1,?_⟩
   refine Zm0 (f165:=ZF 0) (F:=Ziq) (m0:=Zkj) (S:=S) (B:=h3.size) (T:=80) (W:=fun b=>sz h0<=b/\b≠h3.size) (.inl Zui) rfl Zuh (er.ext hh) (Zsg cr2 hlf) (by omega) (fun b hb=>⟨by omega,hb.2⟩) r9 (by omega) hm hf ⟨by omega,by omega⟩ hG (ht.ext hh)
     (hv.keep (fun b _ hl=>Zq hh hl) fun _ h=>h) (fun b hb=>by obtain ⟨y1,y2⟩:=hS b hb;exact ⟨by omega,y2,by omega⟩) hw (fun m h' hq hs r e' u=>?_) fun e m h' hq hn hs r e' u=>?_
   ·have em:m=(ZiR m).mv:=ZoK (Zhu hs)
    obtain ⟨f,hf⟩:∃ f,f=ZiR m:=⟨_,rfl⟩
    rw [<- hf] at em
    rw [em] at r
    have c:=ZgH r (by intro y hy;simp only [YJ.mv,Awr,Azi,or_false] at hy;rcases hy with rfl | rfl | rfl | rfl | rfl | rfl | rfl<;>(show (_:Nat)<4;simp [mk]))
    have czf:=ZB czh u (by rintro (e | e | e)<;>omega)
    have szf:sz h<=sz h':=u.size
    refine rS (Zb c rfl) (rI (Zb c rfl) (rI (Zb c rfl) (rI (Zb c rfl) (rI (Zb c rfl) (rI (Zb c rfl) (rI (Zb c rfl) (ZeW czf (by show 7<=7;omega) rfl fun h2 c2 u2 z2=>rS (Zb c2 rfl) (rI (Zb c2 rfl) (rI (Zb c2 rfl) (rI (Zb c2 rfl) (rI (Zb c2 rfl) (rI (Zb c2 rfl) (rI (Zb c2 rfl) (ok f h2 ?_ ?_ ?_))))))))))))))
    ·exact by unfold X7;rw [hq,hf];rfl
    ·exact e'.upd u2 fun e=>by omega
    ·exact UT (UT (hh.upd _) u fun k hk=>by rcases hk with e | e | e<;>omega) u2 fun k hk=> .inr (by omega)
   ·have em:m=(ZiR m).mv:=ZoK (Zhu hs)
    obtain ⟨f,hf⟩:∃ f,f=ZiR m:=⟨_,rfl⟩
    rw [<- hf] at em
    rw [em] at r
    have c:=ZgH r (by intro y hy;simp only [YJ.mv,Awr,Azi,or_false] at hy;rcases hy with rfl | rfl | rfl | rfl | rfl | rfl | rfl<;>(show (_:Nat)<4;simp [mk]))
    have czf:=ZB czh u (by rintro (e | e | e)<;>omega)
    have szf:sz h<=sz h':=u.size
    refine rS (Zb c rfl) (rI (Zb c rfl) (rI (Zb c rfl) (rI (Zb c rfl) (rI (Zb c rfl) (rI (Zb c rfl) (rI (Zb c rfl) (ZeW czf (by show 7<=7;omega) rfl fun h2 c2 u2 z2=>rS (Zb c2 rfl) (rI (Zb c2 rfl) (rI (Zb c2 rfl) (rI (Zb c2 rfl) (rI (Zb c2 rfl) (rI (Zb c2 rfl) (rI (Zb c2 rfl) (bad e f h2 ?_ hn ?_ ?_))))))))))))))
    ·exact by unfold X7;rw [hq];rfl
    ·exact e'.upd u2 fun e=>by omega
    ·exact UT (UT (hh.upd _) u fun k hk=>by rcases hk with e | e | e<;>omega) u2 fun k hk=> .inr (by omega)
theorem ZqS:∀ a j,Zbs a ZfS 0≠some (j,.items):=fun a j h=>by
  have:=Axq (Y2 h)
  simp [ZfS] at this
theorem ZqR:ZDK ZfS Ziw:=fun a j k h=>by
  have:=Axq (Y2 h)
  simp only [ZfS,Awr,Prod.mk.injEq,Azi,or_false] at this
  rcases this with ⟨_,rfl⟩ | ⟨_,rfl⟩ | ⟨_,rfl⟩ | ⟨_,rfl⟩ | ⟨_,rfl⟩<;>first
    | trivial
    | (show _<=255;decide)
def XD:Nat->Nat:=fun j=>([6,10,14,18,22]:List Nat).getD j 1000
set_option maxRecDepth 4000 in
set_option maxHeartbeats 2000000 in
theorem Zwv {h0:Zc} {R:Nat} (er:Er h0 R 0) (r9:9<=R) (ht:ZaN h0) (h9:9<=sz h0) {z:VT5} {v:JV} {S:Nat->Prop} (hv:Zam h0 S z v) (hS:∀ b,S b->b<sz h0/\b≠R) (hw:wV v<=1000000000000) {K:(Int × Int × Int × Int × Int × Unit)->HP}
    (ok:∀ f h',XZ v = .ok f->Er h' R 0->Upd (· = R) h0 h'->K (ZnU f) h') (bad:∀ e f h',XZ v = .error e->e≠0->Er h' R e->Upd (· = R) h0 h'->K (ZnU f) h'):XA (At R) z K h0:=by
  unfold XA Zbn
  refine YX fun h1 c1 e0 z0=>YX fun h3 c2 e1 z1=>YX fun h5 c3 e2 z2=>?_
  have s_h0:sz h0=h0.size:=rfl
  have s_h1:sz h1=h1.size:=rfl
  have s_h3:sz h3=h3.size:=rfl
  have s_h5:sz h5=h5.size:=rfl
  have hR:=er.lt
  have ex0:Ext h0 h1:=e0
  have ex1:Ext h0 h3:=ex0.trans e1
  have ex2:Ext h0 h5:=ex1.trans e2
  have cv5:obj h5 h0.size=some (.cells (Xl z).toArray 33 (0,0)):=Zl (Zl c1 e1) e2
  have cz5:obj h5 h1.size=some (.cells [.int .i64 0,.int .i64 0,.int .i64 0,.int .i64 0,.int .i64 0].toArray 91 (0,0)):=Zl c2 e2
  refine ZeW c3 (by show 5<=5;omega) rfl fun hs cs us zs=>?_
  have s_hs:sz hs=hs.size:=rfl
  have exs:Ext h0 hs:=ex2.updS us fun j hj=>by subst hj;omega
  have cv:obj hs h0.size=some (.cells (Xl z).toArray 33 (0,0)):=ZB cv5 us (by omega)
  have cz:obj hs h1.size=some (.cells [.int .i64 0,.int .i64 0,.int .i64 0,.int .i64 0,.int .i64 0].toArray 91 (0,0)):=ZB cz5 us (by omega)
  have cr:obj hs h3.size=some (.cells (Ziw.map ZfB).toArray 91 (0,0)):=cs.trans (by kernel_rfl)
  have hlf:∀ x,x∈Ziw->mk x<4:=by decide +kernel
  have Hv:∀ {h':Zc},Ext hs h'->Z9 h' [(h0.size,0,.int .u8 z.1),(h0.size,0+1,.string z.2.1),(h0.size,0+2,.slice z.2.2.1.ptr z.2.2.1.len z.2.2.1.cap),(h0.size,0+3,.slice z.2.2.2.1.ptr z.2.2.2.1.len z.2.2.2.1.cap)]:=fun e=>ZpY (Zl cv e)
  have wk:∀ {c:Nat},sz hs<=c->sz h0<=c/\c≠h3.size:=fun h=>⟨by omega,by omega⟩
  refine rI (Zb cv rfl) (rS (Zb cv rfl) (rL (s:=z.2.2.1) (Zb cv rfl) (rL (s:=z.2.2.2.1) (Zb cv rfl) (?_))))
  refine Zds (fun d t h=>Lit (YD R h3.size (fun b=>sz h0<=b/\b≠h3.size)) ZfS 2 XD hs d t.1 h/\(d 5=true->YD R h3.size (fun b=>sz h0<=b/\b≠h3.size) .num 0 (.func (.func 213) #[] #[.pointer t.2.1.1,.pointer t.2.1.2.1]) h)/\(d 9=true->YD R h3.size (fun b=>sz h0<=b/\b≠h3.size) .num 1 (.func (.func 213) #[] #[.pointer t.2.2.1.1,.pointer t.2.2.1.2.1]) h)/\(d 13=true->YD R h3.size (fun b=>sz h0<=b/\b≠h3.size) .num 2 (.func (.func 213) #[] #[.pointer t.2.2.2.1.1,.pointer t.2.2.2.1.2.1]) h)/\(d 17=true->YD R h3.size (fun b=>sz h0<=b/\b≠h3.size) .num 3 (.func (.func 213) #[] #[.pointer t.2.2.2.2.1.1,.pointer t.2.2.2.2.1.2.1]) h)/\(d 21=true->YD R h3.size (fun b=>sz h0<=b/\b≠h3.size) .num 4 (.func (.func 213) #[] #[.pointer t.2.2.2.2.2.1.1,.pointer t.2.2.2.2.2.1.2.1]) h)) (none,(none,none,()),(none,none,()),(none,none,()),(none,none,()),(none,none,()),()) ⟨Lit.start _ _,(fun e=>by cases e),(fun e=>by cases e),(fun e=>by cases e),(fun e=>by cases e),(fun e=>by cases e)⟩ ?_ ?_
  ·rintro d ⟨s0,s1,s2,s3,s4,s5,⟨⟩⟩ h ⟨L,q5,q9,q13,q17,q21⟩
   refine ⟨?_,?_,?_,?_,?_,?_,?_,?_,?_,?_,?_,trivial⟩
   ·exact fun e0=>L.make e0 (by decide:∀ j,j<5->XD j≠2) fun mb h' L' e'=>⟨Hv L'.ext,⟨L',fun e=>(q5 e).ext e',fun e=>(q9 e).ext e',fun e=>(q13 e).ext e',fun e=>(q17 e).ext e',fun e=>(q21 e).ext e'⟩⟩
   ·exact fun e0  => Y3 fun c1 c2 h' e' z1 z2 _ _ b1 b2=>⟨Hv (L.ext.trans e'),⟨L.call e' (fun g=>g.ext e') (by decide) (by decide:∀ j,j<5->XD j≠5),fun _=>⟨c1,c2,rfl,⟨wk (Aqp L.ext.size z1),wk (Aqp L.ext.size z2)⟩,b1,b2⟩,fun e=>(q9 e).ext e',fun e=>(q13 e).ext e',fun e=>(q17 e).ext e',fun e=>(q21 e).ext e'⟩⟩
   ·exact fun e0 a0 a1=>L.put a0 (j:=0) (a:=[113,112,115]) (k:= .num) (by kernel_rfl) (by decide:∀ i,i<5->XD i=XD 0->i=0) rfl (by decide) (q5 a1) YD.map fun h' L' e' u'=>⟨Hv e',⟨L',fun e=>(q5 e).map u',fun e=>(q9 e).map u',fun e=>(q13 e).map u',fun e=>(q17 e).map u',fun e=>(q21 e).map u'⟩⟩
   ·exact fun e0 a0=>Y3 fun c1 c2 h' e' z1 z2 _ _ b1 b2=>⟨Hv (L.ext.trans e'),⟨L.call e' (fun g=>g.ext e') (by decide) (by decide:∀ j,j<5->XD j≠9),fun e=>(q5 e).ext e',fun _=>⟨c1,c2,rfl,⟨wk (Aqp L.ext.size z1),wk (Aqp L.ext.size z2)⟩,b1,b2⟩,fun e=>(q13 e).ext e',fun e=>(q17 e).ext e',fun e=>(q21 e).ext e'⟩⟩
   ·exact fun e0 a0 a1=>L.put a0 (j:=1) (a:=[116,104,114,101,97,100,115]) (k:= .num) (by kernel_rfl) (by decide:∀ i,i<5->XD i=XD 1->i=1) rfl (by decide) (q9 a1) YD.map fun h' L' e' u'=>⟨Hv e',⟨L',fun e=>(q5 e).map u',fun e=>(q9 e).map u',fun e=>(q13 e).map u',fun e=>(q17 e).map u',fun e=>(q21 e).map u'⟩⟩
   ·exact fun e0 a0=>Y3 fun c1 c2 h' e' z1 z2 _ _ b1 b2=>⟨Hv (L.ext.trans e'),⟨L.call e' (fun g=>g.ext e') (by decide) (by decide:∀ j,j<5->XD j≠13),fun e=>(q5 e).ext e',fun e=>(q9 e).ext e',fun _=>⟨c1,c2,rfl,⟨wk (Aqp L.ext.size z1),wk (Aqp L.ext.size z2)⟩,b1,b2⟩,fun e=>(q17 e).ext e',fun e=>(q21 e).ext e'⟩⟩
   ·exact fun e0 a0 a1=>L.put a0 (j:=2) (a:=[114,116]) (k:= .num) (by kernel_rfl) (by decide:∀ i,i<5->XD i=XD 2->i=2) rfl (by decide) (q13 a1) YD.map fun h' L' e' u'=>⟨Hv e',⟨L',fun e=>(q5 e).map u',fun e=>(q9 e).map u',fun e=>(q13 e).map u',fun e=>(q17 e).map u',fun e=>(q21 e).map u'⟩⟩
   ·exact fun e0 a0=>Y3 fun c1 c2 h' e' z1 z2 _ _ b1 b2=>⟨Hv (L.ext.trans e'),⟨L.call e' (fun g=>g.ext e') (by decide) (by decide:∀ j,j<5->XD j≠17),fun e=>(q5 e).ext e',fun e=>(q9 e).ext e',fun e=>(q13 e).ext e',fun _=>⟨c1,c2,rfl,⟨wk (Aqp L.ext.size z1),wk (Aqp L.ext.size z2)⟩,b1,b2⟩,fun e=>(q21 e).ext e'⟩⟩
   ·exact fun e0 a0 a1=>L.put a0 (j:=3) (a:=[108,111,97,100]) (k:= .num) (by kernel_rfl) (by decide:∀ i,i<5->XD i=XD 3->i=3) rfl (by decide) (q17 a1) YD.map fun h' L' e' u'=>⟨Hv e',⟨L',fun e=>(q5 e).map u',fun e=>(q9 e).map u',fun e=>(q13 e).map u',fun e=>(q17 e).map u',fun e=>(q21 e).map u'⟩⟩
   ·exact fun e0 a0=>Y3 fun c1 c2 h' e' z1 z2 _ _ b1 b2=>⟨Hv (L.ext.trans e'),⟨L.call e' (fun g=>g.ext e') (by decide) (by decide:∀ j,j<5->XD j≠21),fun e=>(q5 e).ext e',fun e=>(q9 e).ext e',fun e=>(q13 e).ext e',fun e=>(q17 e).ext e',fun _=>⟨c1,c2,rfl,⟨wk (Aqp L.ext.size z1),wk (Aqp L.ext.size z2)⟩,b1,b2⟩⟩⟩
   ·exact fun e0 a0 a1=>L.put a0 (j:=4) (a:=[99,112,117]) (k:= .num) (by kernel_rfl) (by decide:∀ i,i<5->XD i=XD 4->i=4) rfl (by decide) (q21 a1) YD.map fun h' L' e' u'=>⟨Hv e',⟨L',fun e=>(q5 e).map u',fun e=>(q9 e).map u',fun e=>(q13 e).map u',fun e=>(q17 e).map u',fun e=>(q21 e).map u'⟩⟩
  ·rintro d ⟨s0,s1,s2,s3,s4,s5,⟨⟩⟩ h ⟨L,q5,q9,q13,q17,q21⟩
   intro d2 d5 d6 d9 d10 d13 d14 d17 d18 d21 d22
   refine ⟨Hv L.ext,?_⟩
   obtain ⟨mb,f,n,cls,rfl,hmb,hm,hf,hG⟩:=L.all d2 (fun j hj=>match j,hj with
     | 0,_=>d6
     | 1,_=>d10
     | 2,_=>d14
     | 3,_=>d18
     | 4,_=>d22
     | k+5,hj=>absurd hj (Azt.2 (Azu 5 k)))
   have hh:Ext h0 h:=exs.trans L.ext
   have szh:sz hs<=sz h:=L.ext.size
   have cr2:=Zl cr L.ext
   have czh:=Zl cz L.ext
   refine ⟨1,?_⟩
   refine Zm0 (f165:=ZF 0) (F:=ZfS) (m0:=Ziw) (S:=S) (B:=h3.size) (T:=91) (W:=fun b=>sz h0<=b/\b≠h3.size) (.inl ZqS) rfl ZqR (er.ext hh) (Zsg cr2 hlf) (by omega) (fun b hb=>⟨by omega,hb.2⟩) r9 (by omega) hm hf ⟨by omega,by omega⟩ hG (ht.ext hh)
     (hv.keep (fun b _ hl=>Zq hh hl) fun _ h=>h) (fun b hb=>by obtain ⟨y1,y2⟩:=hS b hb;exact ⟨by omega,y2,by omega⟩) hw (fun m h' hq hs r e' u=>?_) fun e m h' hq hn hs r e' u=>?_
   ·have em:m=(Zh1 m).mv:=Zpp (Zhu hs)
    obtain ⟨f,hf⟩:∃ f,f=Zh1 m:=⟨_,rfl⟩
    rw [<- hf] at em
    rw [em] at r
    have c:=ZgH r (by intro y hy;simp only [Xi.mv,Awr,Azi,or_false] at hy;rcases hy with rfl | rfl | rfl | rfl | rfl<;>(show (_:Nat)<4;simp [mk]))
    have czf:=ZB czh u (by rintro (e | e | e)<;>omega)
    have szf:sz h<=sz h':=u.size
    refine rI (Zb c rfl) (rI (Zb c rfl) (rI (Zb c rfl) (rI (Zb c rfl) (rI (Zb c rfl) (ZeW czf (by show 5<=5;omega) rfl fun h2 c2 u2 z2=>rI (Zb c2 rfl) (rI (Zb c2 rfl) (rI (Zb c2 rfl) (rI (Zb c2 rfl) (rI (Zb c2 rfl) (ok f h2 ?_ ?_ ?_))))))))))
    ·exact by unfold XZ;rw [hq,hf];rfl
    ·exact e'.upd u2 fun e=>by omega
    ·exact UT (UT (hh.upd _) u fun k hk=>by rcases hk with e | e | e<;>omega) u2 fun k hk=> .inr (by omega)
   ·have em:m=(Zh1 m).mv:=Zpp (Zhu hs)
    obtain ⟨f,hf⟩:∃ f,f=Zh1 m:=⟨_,rfl⟩
    rw [<- hf] at em
    rw [em] at r
    have c:=ZgH r (by intro y hy;simp only [Xi.mv,Awr,Azi,or_false] at hy;rcases hy with rfl | rfl | rfl | rfl | rfl<;>(show (_:Nat)<4;simp [mk]))
    have czf:=ZB czh u (by rintro (e | e | e)<;>omega)
    have szf:sz h<=sz h':=u.size
    refine rI (Zb c rfl) (rI (Zb c rfl) (rI (Zb c rfl) (rI (Zb c rfl) (rI (Zb c rfl) (ZeW czf (by show 5<=5;omega) rfl fun h2 c2 u2 z2=>rI (Zb c2 rfl) (rI (Zb c2 rfl) (rI (Zb c2 rfl) (rI (Zb c2 rfl) (rI (Zb c2 rfl) (bad e f h2 ?_ hn ?_ ?_))))))))))
    ·exact by unfold XZ;rw [hq];rfl
    ·exact e'.upd u2 fun e=>by omega
    ·exact UT (UT (hh.upd _) u fun k hk=>by rcases hk with e | e | e<;>omega) u2 fun k hk=> .inr (by omega)
theorem Zxo:∀ a j,Zbs a ZjX 0≠some (j,.items):=fun a j h=>by
  have:=Axq (Y2 h)
  simp [ZjX] at this
theorem Zxn:ZDK ZjX Zos:=fun a j k h=>by
  have h2:=Y2 h
  match j,h2 with
  | 0,h2=>simp [ZjX] at h2;obtain ⟨_,rfl⟩:=h2;trivial
  | 1,h2=>simp [ZjX] at h2;obtain ⟨_,rfl⟩:=h2;trivial
  | 2,h2 =>
    simp [ZjX] at h2;obtain ⟨_,rfl⟩:=h2
    refine ⟨rfl,rfl,fun i y hy hne=>?_⟩
    match i,hy,hne with
    | 0,hy,_=>simp [Zos] at hy;subst hy;decide
    | 1,hy,_=>simp [Zos] at hy;subst hy;decide
    | 2,_,hne=>exact absurd rfl hne
    | i+3,hy,_=>simp [Zos] at hy
  | j+3,h2=>simp [ZjX] at h2
def ZdQ:Nat->Nat:=fun j=>([6,10,14]:List Nat).getD j 1000
set_option maxRecDepth 4000 in
set_option maxHeartbeats 2000000 in
theorem ZC6 {h0:Zc} {R:Nat} (er:Er h0 R 0) (r9:9<=R) (ht:ZaN h0) (h9:9<=sz h0) {z:VT5} {v:JV} {S:Nat->Prop} (hv:Zam h0 S z v) (hS:∀ b,S b->b<sz h0/\b≠R) (hw:wV v<=1000000000000) {K:(ByteArray × Bool × Sl × Unit)->HP}
    (ok:∀ x f h',ZaO v = .ok f->Own h' (sz h0) x 1 (f.origins.map sV)->Er h' R 0->Upd (· = R) h0 h'->K (Zt1 x f) h') (bad:∀ e x f h',ZaO v = .error e->e≠0->Own h' (sz h0) x 1 (f.origins.map sV)->Er h' R e->Upd (· = R) h0 h'->K (Zt1 x f) h'):XR (At R) z K h0:=by
  unfold XR ZbZ
  refine YX fun h1 c1 e0 z0=>YX fun h3 c2 e1 z1=>YX fun h5 c3 e2 z2=>YX fun h7 c4 e3 z3=>?_
  have s_h0:sz h0=h0.size:=rfl
  have s_h1:sz h1=h1.size:=rfl
  have s_h3:sz h3=h3.size:=rfl
  have s_h5:sz h5=h5.size:=rfl
  have s_h7:sz h7=h7.size:=rfl
  have hR:=er.lt
  have ex0:Ext h0 h1:=e0
  have ex1:Ext h0 h3:=ex0.trans e1
  have ex2:Ext h0 h5:=ex1.trans e2
  have ex3:Ext h0 h7:=ex2.trans e3
  have cv5:obj h7 h1.size=some (.cells (Xl z).toArray 33 (0,0)):=Zl (Zl c2 e2) e3
  have cz5:obj h7 h3.size=some (.cells [.string (ByteArray.mk #[]),.bool false,.slice none 0 0].toArray 95 (0,0)):=Zl c3 e3
  have cp5:Box h7 h0.size (.pointer (At R)):=⟨_,Zl (Zl (Zl c1 e1) e2) e3⟩
  have cv:=cv5
  have cz:=cz5
  have cr:obj h7 h5.size=some (.cells ([.t [],.b false].map ZfB++[slV ⟨none,0,0⟩]).toArray 95 (0,0)):=c4.trans (by kernel_rfl)
  have hlf:∀ x,x∈[.t [],.b false]->mk x<4:=by decide +kernel
  have Hv:∀ {h':Zc},Ext h7 h'->Z9 h' [(h1.size,0,.int .u8 z.1),(h1.size,0+1,.string z.2.1),(h1.size,0+2,.slice z.2.2.1.ptr z.2.2.1.len z.2.2.1.cap),(h1.size,0+3,.slice z.2.2.2.1.ptr z.2.2.2.1.len z.2.2.2.1.cap)]:=fun e=>ZpY (Zl cv e)
  have wk:∀ {c:Nat},sz h7<=c->sz h0<=c/\c≠h5.size:=fun h=>⟨by omega,by omega⟩
  have Hp:∀ {h':Zc},Ext h7 h'->Z9 h' [(h0.size,0,.pointer (At R))]:=fun e=>Zfp (cp5.ext e)
  have bxc:=cp5
  have lbc:sz h0<=h0.size/\h0.size≠h5.size:=⟨by omega,by omega⟩
  obtain ⟨Tp,cp⟩:=cp5
  refine rP (Zb cp rfl) (rI (Zb cv rfl) (rS (Zb cv rfl) (rL (s:=z.2.2.1) (Zb cv rfl) (rL (s:=z.2.2.2.1) (Zb cv rfl) (rP (Zb cp rfl) (rP (Zb cp rfl) (rP (Zb cp rfl) (?_))))))))
  refine Zds (fun d t h=>Lit (YD R h5.size (fun b=>sz h0<=b/\b≠h5.size)) ZjX 2 ZdQ h7 d t.1 h/\(d 5=true->YD R h5.size (fun b=>sz h0<=b/\b≠h5.size) .text 0 (.func (.func 211) #[] #[.pointer t.2.1.1,.pointer t.2.1.2.1]) h)/\(d 9=true->YD R h5.size (fun b=>sz h0<=b/\b≠h5.size) .yes 1 (.func (.func 212) #[] #[.pointer t.2.2.1.1,.pointer t.2.2.1.2.1]) h)/\(d 13=true->YD R h5.size (fun b=>sz h0<=b/\b≠h5.size) .texts 2 (.func (.func 216) #[] #[.pointer t.2.2.2.1.1,.pointer t.2.2.2.1.2.1]) h)) (none,(none,none,()),(none,none,()),(none,none,()),()) ⟨Lit.start _ _,(fun e=>by cases e),(fun e=>by cases e),(fun e=>by cases e)⟩ ?_ ?_
  ·rintro d ⟨s0,s1,s2,s3,⟨⟩⟩ h ⟨L,q5,q9,q13⟩
   refine ⟨?_,?_,?_,?_,?_,?_,?_,trivial⟩
   ·exact fun e0=>L.make e0 (by decide:∀ j,j<3->ZdQ j≠2) fun mb h' L' e'=>⟨Hp L'.ext,⟨Hp L'.ext,⟨Hp L'.ext,⟨Hv L'.ext,⟨Hp L'.ext,⟨L',fun e=>(q5 e).ext e',fun e=>(q9 e).ext e',fun e=>(q13 e).ext e'⟩⟩⟩⟩⟩⟩
   ·exact fun e0  => Zfm fun c1 c2 h' e' z1 z2 _ _ b1 b2=>⟨Hp (L.ext.trans e'),⟨Hp (L.ext.trans e'),⟨Hv (L.ext.trans e'),⟨Hp (L.ext.trans e'),⟨L.call e' (fun g=>g.ext e') (by decide) (by decide:∀ j,j<3->ZdQ j≠5),fun _=>⟨c1,c2,rfl,⟨wk (Aqp L.ext.size z1),wk (Aqp L.ext.size z2)⟩,b1,b2⟩,fun e=>(q9 e).ext e',fun e=>(q13 e).ext e'⟩⟩⟩⟩⟩
   ·exact fun e0 a0 a1=>L.put a0 (j:=0) (a:=[114,101,115,111,117,114,99,101]) (k:= .text) (by kernel_rfl) (by decide:∀ i,i<3->ZdQ i=ZdQ 0->i=0) rfl (by decide) (q5 a1) YD.map fun h' L' e' u'=>⟨Hp e',⟨Hp e',⟨Hp e',⟨Hv e',⟨Hp e',⟨L',fun e=>(q5 e).map u',fun e=>(q9 e).map u',fun e=>(q13 e).map u'⟩⟩⟩⟩⟩⟩
   ·exact fun e0 a0=>ZkH fun c1 c2 h' e' z1 z2 _ _ b1 b2=>⟨Hp (L.ext.trans e'),⟨Hp (L.ext.trans e'),⟨Hv (L.ext.trans e'),⟨Hp (L.ext.trans e'),⟨L.call e' (fun g=>g.ext e') (by decide) (by decide:∀ j,j<3->ZdQ j≠9),fun e=>(q5 e).ext e',fun _=>⟨c1,c2,rfl,⟨wk (Aqp L.ext.size z1),wk (Aqp L.ext.size z2)⟩,b1,b2⟩,fun e=>(q13 e).ext e'⟩⟩⟩⟩⟩
   ·exact fun e0 a0 a1=>L.put a0 (j:=1) (a:=[119,104,105,116,101]) (k:= .yes) (by kernel_rfl) (by decide:∀ i,i<3->ZdQ i=ZdQ 1->i=1) rfl (by decide) (q9 a1) YD.map fun h' L' e' u'=>⟨Hp e',⟨Hp e',⟨Hp e',⟨Hv e',⟨Hp e',⟨L',fun e=>(q5 e).map u',fun e=>(q9 e).map u',fun e=>(q13 e).map u'⟩⟩⟩⟩⟩⟩
   ·exact fun e0 a0=>ZtZ fun c1 c2 h' e' z1 z2 b1 b2=>⟨Hp (L.ext.trans e'),⟨Hp (L.ext.trans e'),⟨Hv (L.ext.trans e'),⟨Hp (L.ext.trans e'),⟨L.call e' (fun g=>g.ext e') (by decide) (by decide:∀ j,j<3->ZdQ j≠13),fun e=>(q5 e).ext e',fun e=>(q9 e).ext e',fun _=>⟨c1,c2,_,rfl,⟨wk (Aqp L.ext.size z1),wk (Aqp L.ext.size z2),lbc⟩,b1,b2,bxc.ext (L.ext.trans e')⟩⟩⟩⟩⟩⟩
   ·exact fun e0 a0 a1=>L.put a0 (j:=2) (a:=[111,114,105,103,105,110,115]) (k:= .texts) (by kernel_rfl) (by decide:∀ i,i<3->ZdQ i=ZdQ 2->i=2) rfl (by decide) (q13 a1) YD.map fun h' L' e' u'=>⟨Hp e',⟨Hp e',⟨Hp e',⟨Hv e',⟨Hp e',⟨L',fun e=>(q5 e).map u',fun e=>(q9 e).map u',fun e=>(q13 e).map u'⟩⟩⟩⟩⟩⟩
  ·rintro d ⟨s0,s1,s2,s3,⟨⟩⟩ h ⟨L,q5,q9,q13⟩
   intro d2 d5 d6 d9 d10 d13 d14
   refine ⟨Hp L.ext,⟨Hp L.ext,⟨Hp L.ext,⟨Hv L.ext,⟨Hp L.ext,?_⟩⟩⟩⟩⟩
   obtain ⟨mb,f,n,cls,rfl,hmb,hm,hf,hG⟩:=L.all d2 (fun j hj=>match j,hj with
     | 0,_=>d6
     | 1,_=>d10
     | 2,_=>d14
     | k+3,hj=>absurd hj (Azt.2 (Azu 3 k)))
   have hh:Ext h0 h:=ex3.trans L.ext
   have szh:sz h7<=sz h:=L.ext.size
   have cr2:=Zl cr L.ext
   have czh:=Zl cz L.ext
   refine ⟨1,?_⟩
   refine Zm0 (f165:=ZF 0) (F:=ZjX) (m0:=Zos) (S:=S) (B:=h5.size) (T:=95) (W:=fun b=>sz h0<=b/\b≠h5.size) (.inl Zxo) rfl Zxn (er.ext hh) (ZwN cr2 hlf ⟨⟨none,0,0⟩,rfl,Own.nil _ _ _⟩) (by omega) (fun b hb=>⟨by omega,hb.2⟩) r9 (by omega) hm hf ⟨by omega,by omega⟩ hG (ht.ext hh)
     (hv.keep (fun b _ hl=>Zq hh hl) fun _ h=>h) (fun b hb=>by obtain ⟨y1,y2⟩:=hS b hb;exact ⟨by omega,y2,by omega⟩) hw (fun m h' hq hs r e' u=>?_) fun e m h' hq hn hs r e' u=>?_
   ·have em:m=(Zkf m).mv:=Zrm (Zhu hs)
    obtain ⟨f,hf⟩:∃ f,f=Zkf m:=⟨_,rfl⟩
    rw [<- hf] at em
    rw [em] at r
    obtain ⟨w,c,x,rfl,own⟩:=ZkF (m:=[.t f.res,.b f.white]) r (by intro y hy;simp only [Awr,Azi,or_false] at hy;rcases hy with rfl | rfl<;>(show (_:Nat)<4;simp [mk]))
    have czf:=ZB czh u (by rintro (e | e | e)<;>omega)
    have szf:sz h<=sz h':=u.size
    have cpf:Box h' h0.size (.pointer (At R)):=Box.upd (Box.ext ⟨Tp,cp⟩ L.ext) u (by rintro (e | e | e)<;>omega)
    refine ⟨Zfp cpf,⟨Zfp cpf,⟨Zfp cpf,rS (Zb c rfl) (rBl (Zb c rfl) (rL (s:=x) (Zb c rfl) (ZeW czf (by show 3<=3;omega) rfl fun h2 c2 u2 z2=>rS (Zb c2 rfl) (rBl (Zb c2 rfl) (rL (s:=x) (Zb c2 rfl) (ok x f h2 ?_ (by exact (own.congr fun b _ hl hb=>Zo u2 hl fun e=>by omega).base (by omega)) ?_ ?_))))))⟩⟩⟩
    ·exact by unfold ZaO;rw [hq,hf];rfl
    ·exact e'.upd u2 fun e=>by omega
    ·exact UT (UT (hh.upd _) u fun k hk=>by rcases hk with e | e | e<;>omega) u2 fun k hk=> .inr (by omega)
   ·have em:m=(Zkf m).mv:=Zrm (Zhu hs)
    obtain ⟨f,hf⟩:∃ f,f=Zkf m:=⟨_,rfl⟩
    rw [<- hf] at em
    rw [em] at r
    obtain ⟨w,c,x,rfl,own⟩:=ZkF (m:=[.t f.res,.b f.white]) r (by intro y hy;simp only [Awr,Azi,or_false] at hy;rcases hy with rfl | rfl<;>(show (_:Nat)<4;simp [mk]))
    have czf:=ZB czh u (by rintro (e | e | e)<;>omega)
    have szf:sz h<=sz h':=u.size
    have cpf:Box h' h0.size (.pointer (At R)):=Box.upd (Box.ext ⟨Tp,cp⟩ L.ext) u (by rintro (e | e | e)<;>omega)
    refine ⟨Zfp cpf,⟨Zfp cpf,⟨Zfp cpf,rS (Zb c rfl) (rBl (Zb c rfl) (rL (s:=x) (Zb c rfl) (ZeW czf (by show 3<=3;omega) rfl fun h2 c2 u2 z2=>rS (Zb c2 rfl) (rBl (Zb c2 rfl) (rL (s:=x) (Zb c2 rfl) (bad e x f h2 ?_ hn (by exact (own.congr fun b _ hl hb=>Zo u2 hl fun e=>by omega).base (by omega)) ?_ ?_))))))⟩⟩⟩
    ·exact by unfold ZaO;rw [hq];rfl
    ·exact e'.upd u2 fun e=>by omega
    ·exact UT (UT (hh.upd _) u fun k hk=>by rcases hk with e | e | e<;>omega) u2 fun k hk=> .inr (by omega)
end Go.Proofs.YtpjbjdheeemdiaaGreatDoor
