/- Arguments of the token server's laws: requests. -/
import Derived.Test.YtbppjmcinoffnaaGreatPa17
set_option linter.unusedVariables false
set_option linter.unusedSimpArgs false
namespace Go.Proofs.YtbppjmcinoffnaaGreat.Tk
open Go Go.Fw Go.ChangeShapes Go.WideShapes
theorem ZlQ {H:Type} {d:DataW H}:∀ {l:List (DataW H)},d∈l→Rows.uptoBulk d≤Rows.uptoBulkAll l
  | e::l,h=>by
    rcases List.mem_cons.1 h with rfl | h
    ·simp only [Rows.uptoBulkAll];omega
    ·have:=ZlQ h
     simp only [Rows.uptoBulkAll]
     omega
section
variable {H:Type} {enc:TypeId × Value→H} {P:Program} {w:World} {base:Nat} {spare:Nat→Bool} {held:Bool}
theorem ZeE {fs:Array Field} {l:List (TypeId × Nat)} (hf:fs.toList.map (fun f=>(f.type,f.offset))=l) {i:Nat} {p:TypeId × Nat} (hp:l[i]?=some p):∃ f,fs[i]?=some f∧f.type=p.1∧f.offset=p.2:=by
  subst hf
  rw [List.getElem?_map,Option.map_eq_some_iff] at hp
  obtain ⟨f,h1,rfl⟩:=hp
  exact ⟨f,by simpa using h1,rfl,rfl⟩
theorem Zvv {t:TypeId} {fs:Array Field} {cs:List Value} {fuel:Nat} {x:DataW H × List MemPlace} (ht:P.underlying t=some (.struct fs)) (hc:P.cellsOf t=6) {ti tw ts:TypeId} (hti:P.underlying ti=some (.int .i64)) (htw:P.underlying tw=some (.int .u8)) (hts:P.underlying ts=some .string)
    (ci:P.cellsOf ti=1) (cw:P.cellsOf tw=1) (csz:P.cellsOf ts=1) (hf:fs.toList.map (fun f=>(f.type,f.offset))=[(ti,0),(tw,1),(ti,2),(ti,3),(ts,4),(ti,5)])
    (h:DataW.trod enc P w base spare held fuel t cs=some x):∃ r:Rq,cs=rqC r∧r.2.2.2.2.1.size<9223372036854775808∧r.2.2.2.2.1.size+1≤Rows.uptoBulk x.1:=by
  obtain ⟨xs,n,rfl,rfl,hl,hlen,hall⟩:=DataW.trod_struct ht h
  rw [hc] at hl
  have hfl:fs.size=6:=by
    have:=congrArg List.length hf
    simpa using this
  match cs,hl with
  | [c0,c1,c2,c3,c4,c5],_ =>
    have int:∀ (i o:Nat) (c:Value),([(ti,0),(tw,1),(ti,2),(ti,3),(ts,4),(ti,5)]:List (TypeId × Nat))[i]?=some (ti,o)→(([c0,c1,c2,c3,c4,c5]:List Value).drop o).take 1=[c]→∃ m,c = .int .i64 m:=fun i o c h1 h2=>by
      obtain ⟨f,g1,g2,g3⟩:=ZeE hf h1
      have:=hall i f g1
      simp only at g2 g3
      rw [g2,g3,ci,h2] at this
      have hi:i<xs.length:=by
        rw [hlen,hfl]
        rcases Nat.lt_or_ge i 6 with h9 | h9
        ·exact h9
        ·rw [List.getElem?_eq_none (by simpa using h9)] at h1;cases h1
      rw [List.getElem?_eq_getElem hi] at this
      obtain ⟨m,hm,_⟩:=DataW.trod_int hti this
      exact ⟨m,by simpa using hm⟩
    obtain ⟨m0,rfl⟩:=int 0 0 c0 rfl rfl
    obtain ⟨m2,rfl⟩:=int 2 2 c2 rfl rfl
    obtain ⟨m3,rfl⟩:=int 3 3 c3 rfl rfl
    obtain ⟨m5,rfl⟩:=int 5 5 c5 rfl rfl
    have w1:∃ m,c1 = .int .u8 m:=by
      obtain ⟨f,g1,g2,g3⟩:=ZeE hf (i:=1) rfl
      have:=hall 1 f g1
      simp only at g2 g3
      rw [g2,g3,cw] at this
      rw [List.getElem?_eq_getElem (by omega:1<xs.length)] at this
      obtain ⟨m,hm,_⟩:=DataW.trod_int htw this
      exact ⟨m,by simpa using hm⟩
    obtain ⟨m1,rfl⟩:=w1
    have s4:∃ s:ByteArray,c4 = .string s∧s.size≤maxLen∧s.size+1≤Rows.uptoBulkAll (xs.map (·.1)):=by
      obtain ⟨f,g1,g2,g3⟩:=ZeE hf (i:=4) rfl
      have:=hall 4 f g1
      simp only at g2 g3
      rw [g2,g3,csz] at this
      rw [List.getElem?_eq_getElem (by omega:4<xs.length)] at this
      obtain ⟨s,hs,hx,hsz⟩:=DataW.trod_string hts this
      refine ⟨s,by simpa using hs,hsz,?_⟩
      have hm:(DataW.lit (.string s.data.toList):DataW H)∈xs.map (·.1):=List.mem_map.2 ⟨xs[4],List.getElem_mem _,by rw [hx]⟩
      have:=ZlQ hm
      simp only [Rows.uptoBulk] at this
      have e:s.data.toList.length=s.size:=by simp
      omega
    obtain ⟨s,rfl,hsz,hbulk⟩:=s4
    refine ⟨(m0,m1,m2,m3,s,m5,()),rfl,ZmO hsz,?_⟩
    simp only [Rows.uptoBulk]
    omega
end
section
variable {H:Type} {enc:TypeId × Value→H} {P:Program} {w:World} {base:Nat} {spare:Nat→Bool} {held:Bool}
theorem Zg0 {α:Type} [Inhabited α] {g:α→List Value} {n:Nat} (hg:∀ a,(g a).length=n) (hn:0<n) {Pa:α→Prop} {μ:α→Nat} {u t:TypeId} {fuel:Nat} {a:Option Addr} {len cap:Nat} {x:DataW H × List MemPlace} (hu:P.underlying u=some (.slice t)) (hc:P.cellsOf t=n)
    (elem:∀ {fuel:Nat} {cs:List Value} {x:DataW H × List MemPlace},DataW.trod enc P w base spare held fuel t cs=some x→∃ a:α,cs=g a∧Pa a∧μ a≤Rows.uptoBulk x.1)
    (h:DataW.trod enc P w base spare held fuel u [.slice a len cap]=some x):∃ l:List α,(Row w.heap ⟨a,len,cap⟩ n (l.flatMap g)∧∀ a,a∈l→Pa a)∧(l.map μ).sum+1≤Rows.uptoBulk x.1:=by
  rcases Deep.open_slice hu h with ⟨hcs,rfl⟩ | ⟨a',len',cap',m,n',D,Pl,hcs,_,hl,hm,hmm,rfl,hx⟩
  ·simp at hcs
   obtain ⟨rfl,rfl,rfl⟩:=hcs
   exact ⟨[],⟨Row.nil _ n,by simp⟩,by simp [Rows.uptoBulk]⟩
  ·simp at hcs
   obtain ⟨rfl,rfl,rfl⟩:=hcs
   have hlen:len≤m:=by rw [hmm];split<;>omega
   have hbig:cap<9223372036854775808:=ZmO hm
   have each:∀ i,i<len→∃ a:α,w.cells? base (a'.add (i*n)) n=some (g a)∧Pa a∧μ a≤Rows.uptoBulk (D i):=by
     intro i hi
     obtain ⟨cs',h1,h2⟩:=hx i (by omega)
     rw [hc] at h1
     obtain ⟨r,rfl,hp,hb⟩:=elem h2
     exact ⟨r,h1,hp,hb⟩
   obtain ⟨f,hf⟩:=Deep.choose_lt each
   have cell:∀ i,i<len→∀ k,k<n→w.cell? ((a'.add (i*n)).add k)=(g (f i))[k]?:=fun i hi k hk=>(World.cells?_some (hf i hi).1).2.2 k hk
   refine ⟨(List.range len).map f,⟨⟨by rw [Z7 hg];simp,hl,hbig,?_⟩,fun a ha=>?_⟩,?_⟩
   ·rcases Nat.eq_zero_or_pos len with h0 | h0
    ·exact .inl h0
    ·right
     have hsp:a'=⟨a'.block,a'.off,none⟩:=by
       have h0:=cell 0 (by omega) 0 hn
       have e0:(a'.add (0*n)).add 0=a':=by rw [Nat.zero_mul];rfl
       rw [e0,List.getElem?_eq_getElem (by rw [hg];exact hn)] at h0
       exact ZrE h0
     refine ⟨a'.block,a'.off,by rw [← hsp],Zo2 fun k v hv=>?_⟩
     have hk:k<len*n:=by
       have:=Za3 hv
       rw [Z7 hg] at this
       simpa using this
     have hdm:=Nat.div_add_mod k n
     have hi:k / n<len:=(Nat.div_lt_iff_lt_mul hn).2 hk
     have hj:k % n<n:=Nat.mod_lt _ hn
     have e1:=Zgi hg ((List.range len).map f) (k / n) (k % n) (f (k / n)) (by rw [List.getElem?_map,List.getElem?_range hi];rfl) hj
     have ek:k / n*n+k % n=k:=by rw [Nat.mul_comm];exact hdm
     rw [ek,hv] at e1
     have:=cell (k / n) hi (k % n) hj
     rw [hsp,Zpk,Zpk,ZlP,← e1] at this
     rw [← ek,← Nat.add_assoc]
     exact this
   ·obtain ⟨i,hi,rfl⟩:=List.mem_map.1 ha
    exact (hf i (by simpa using hi)).2.1
   ·have h1:=ZjO D (fun i=>μ (f i)) (List.range len) fun i hi=>(hf i (by simpa using hi)).2.2
    simp only [Rows.uptoBulk,List.map_map]
    have:((List.range len).map (μ ∘ f)).sum≤Rows.uptoBulkAll ((List.range len).map D):=h1
    omega
theorem ZyI {n:Int} (h:(Lit.int .u8 n).wf=true):0≤n∧n<256:=by
  simp only [Lit.wf,Bool.and_eq_true,decide_eq_true_eq] at h
  have h1:IntKind.u8.min=0:=by decide
  have h2:IntKind.u8.max=255:=by decide
  omega
end
end Go.Proofs.YtbppjmcinoffnaaGreat.Tk
namespace Go.Proofs.YtbppjmcinoffnaaGreat
open Go Go.Fw Go.ChangeShapes Go.WideShapes
open Tk (F4 f4L YT Zg0 Zvv ZeE ZyI)
theorem ZyJ {n:Int} (h:(Lit.int .i64 n).wf=true) : -9223372036854775808≤n∧n<9223372036854775808:=by
  simp only [Lit.wf,Bool.and_eq_true,decide_eq_true_eq] at h
  have h1:IntKind.i64.min = -9223372036854775808:=by decide
  have h2:IntKind.i64.max=9223372036854775807:=by decide
  omega
theorem Zlc {α:Type}:∀ l:List α,(l.map fun _=>(1:Nat)).sum=l.length
  | []=>rfl
  | _::l=>by rw [List.map_cons,List.sum_cons,Zlc l,List.length_cons];omega
section
variable {H:Type} {enc:TypeId × Value→H} {P:Program} {w:World} {base:Nat} {spare:Nat→Bool} {held:Bool}
theorem ZzE {t:TypeId} {fs:Array Field} {cs:List Value} {fuel:Nat} {x:DataW H × List MemPlace} (ht:P.underlying t=some (.struct fs)) (hc:P.cellsOf t=4) {ti tk:TypeId} (hti:P.underlying ti=some (.int .i64)) (htk:P.underlying tk=some (.int .i64)) (ci:P.cellsOf ti=1) (ck:P.cellsOf tk=1)
    (hf:fs.toList.map (fun f=>(f.type,f.offset))=[(ti,0),(ti,1),(tk,2),(ti,3)]) (h:DataW.trod enc P w base spare held fuel t cs=some x):∃ f:F4,cs=f4L f∧True∧1≤Rows.uptoBulk x.1:=by
  obtain ⟨xs,n,rfl,rfl,hl,hlen,hall⟩:=DataW.trod_struct ht h
  rw [hc] at hl
  have hfl:fs.size=4:=by
    have:=congrArg List.length hf
    simpa using this
  match cs,hl with
  | [c0,c1,c2,c3],_ =>
    have fld:∀ {i:Nat} {p:TypeId × Nat} (hi:i<xs.length),([(ti,0),(ti,1),(tk,2),(ti,3)]:List (TypeId × Nat))[i]?=some p→DataW.trod enc P w base spare held n p.1 (([c0,c1,c2,c3].drop p.2).take (P.cellsOf p.1))=some xs[i]:=fun {i p} hi hp=>by
      obtain ⟨f,g1,g2,g3⟩:=ZeE hf hp
      have:=hall i f g1
      rw [g2,g3,List.getElem?_eq_getElem hi] at this
      exact this
    have f0:=fld (i:=0) (by omega) rfl
    have f1:=fld (i:=1) (by omega) rfl
    have f2:=fld (i:=2) (by omega) rfl
    have f3:=fld (i:=3) (by omega) rfl
    dsimp only at f0 f1 f2 f3
    rw [ci] at f0 f1 f3
    rw [ck] at f2
    obtain ⟨m0,h0,_⟩:=DataW.trod_int hti f0
    obtain ⟨m1,h1,_⟩:=DataW.trod_int hti f1
    obtain ⟨m2,h2,_⟩:=DataW.trod_int htk f2
    obtain ⟨m3,h3,_⟩:=DataW.trod_int hti f3
    simp at h0 h1 h2 h3
    subst h0 h1 h2 h3
    refine ⟨(m0,m1,m2,m3,()),rfl,trivial,?_⟩
    simp only [Rows.uptoBulk]
    omega
theorem Zxc {u t:TypeId} {fs:Array Field} {fuel:Nat} {a:Option Addr} {len cap:Nat} {x:DataW H × List MemPlace} (hu:P.underlying u=some (.slice t)) (ht:P.underlying t=some (.struct fs)) (hc:P.cellsOf t=4) {ti tk:TypeId} (hti:P.underlying ti=some (.int .i64)) (htk:P.underlying tk=some (.int .i64)) (ci:P.cellsOf ti=1) (ck:P.cellsOf tk=1)
    (hf:fs.toList.map (fun f=>(f.type,f.offset))=[(ti,0),(ti,1),(tk,2),(ti,3)]) (h:DataW.trod enc P w base spare held fuel u [.slice a len cap]=some x):∃ l:List F4,Row w.heap ⟨a,len,cap⟩ 4 (l.flatMap f4L)∧l.length+1≤Rows.uptoBulk x.1:=by
  haveI:Inhabited F4:=⟨(0,0,0,0,())⟩
  obtain ⟨l,⟨h1,_⟩,h2⟩:=Zg0 (Pa:=fun _:F4=>True) (μ:=fun _=>1) YT (by decide) hu hc (ZzE ht hc hti htk ci ck hf) h
  refine ⟨l,h1,?_⟩
  have:=Zlc l
  omega
theorem ZzD {t:TypeId} {fs rs:Array Field} {cs:List Value} {fuel:Nat} {x:DataW H × List MemPlace} (ht:P.underlying t=some (.struct fs)) (hc:P.cellsOf t=10) {ti tr tw ts tk:TypeId} (hti:P.underlying ti=some (.int .i64)) (htr:P.underlying tr=some (.struct rs))
    (htw:P.underlying tw=some (.int .u8)) (hts:P.underlying ts=some .string) (htk:P.underlying tk=some (.int .u8)) (ci:P.cellsOf ti=1) (cr:P.cellsOf tr=6) (cw:P.cellsOf tw=1) (csz:P.cellsOf ts=1) (ck:P.cellsOf tk=1)
    (hf:fs.toList.map (fun f=>(f.type,f.offset))=[(tk,0),(ti,1),(ti,2),(ti,3),(tr,4)]) (hr:rs.toList.map (fun f=>(f.type,f.offset))=[(ti,0),(tw,1),(ti,2),(ti,3),(ts,4),(ti,5)])
    (h:DataW.trod enc P w base spare held fuel t cs=some x):∃ o:Op,cs=opL o∧Zxf o∧1≤Rows.uptoBulk x.1:=by
  obtain ⟨xs,n,rfl,rfl,hl,hlen,hall⟩:=DataW.trod_struct ht h
  rw [hc] at hl
  have hfl:fs.size=5:=by
    have:=congrArg List.length hf
    simpa using this
  match cs,hl with
  | [c0,c1,c2,c3,c4,c5,c6,c7,c8,c9],_ =>
    have fld:∀ {i:Nat} {p:TypeId × Nat} (hi:i<xs.length),([(tk,0),(ti,1),(ti,2),(ti,3),(tr,4)]:List (TypeId × Nat))[i]?=some p→DataW.trod enc P w base spare held n p.1 (([c0,c1,c2,c3,c4,c5,c6,c7,c8,c9].drop p.2).take (P.cellsOf p.1))=some xs[i]:=fun {i p} hi hp=>by
      obtain ⟨f,g1,g2,g3⟩:=ZeE hf hp
      have:=hall i f g1
      rw [g2,g3,List.getElem?_eq_getElem hi] at this
      exact this
    have f0:=fld (i:=0) (by omega) rfl
    have f1:=fld (i:=1) (by omega) rfl
    have f2:=fld (i:=2) (by omega) rfl
    have f3:=fld (i:=3) (by omega) rfl
    have f4:=fld (i:=4) (by omega) rfl
    dsimp only at f0 f1 f2 f3 f4
    rw [ck] at f0
    rw [ci] at f1 f2 f3
    rw [cr] at f4
    obtain ⟨m0,h0,_,w0⟩:=DataW.trod_int htk f0
    obtain ⟨m1,h1,_⟩:=DataW.trod_int hti f1
    obtain ⟨m2,h2,_⟩:=DataW.trod_int hti f2
    obtain ⟨m3,h3,_⟩:=DataW.trod_int hti f3
    obtain ⟨r,h4,hrs,hrb⟩:=Zvv htr cr hti htw hts ci cw csz hr f4
    simp at h0 h1 h2 h3 h4
    obtain ⟨rfl,rfl,rfl,rfl,rfl,rfl⟩:=h4
    subst h0 h1 h2 h3
    refine ⟨(m0,m1,m2,m3,r),rfl,⟨ZyI w0,hrs⟩,?_⟩
    simp only [Rows.uptoBulk]
    omega
theorem Zxb {u t:TypeId} {fs rs:Array Field} {fuel:Nat} {a:Option Addr} {len cap:Nat} {x:DataW H × List MemPlace} (hu:P.underlying u=some (.slice t)) (ht:P.underlying t=some (.struct fs)) (hc:P.cellsOf t=10) {ti tr tw ts tk:TypeId} (hti:P.underlying ti=some (.int .i64)) (htr:P.underlying tr=some (.struct rs))
    (htw:P.underlying tw=some (.int .u8)) (hts:P.underlying ts=some .string) (htk:P.underlying tk=some (.int .u8)) (ci:P.cellsOf ti=1) (cr:P.cellsOf tr=6) (cw:P.cellsOf tw=1) (csz:P.cellsOf ts=1) (ck:P.cellsOf tk=1)
    (hf:fs.toList.map (fun f=>(f.type,f.offset))=[(tk,0),(ti,1),(ti,2),(ti,3),(tr,4)]) (hr:rs.toList.map (fun f=>(f.type,f.offset))=[(ti,0),(tw,1),(ti,2),(ti,3),(ts,4),(ti,5)])
    (h:DataW.trod enc P w base spare held fuel u [.slice a len cap]=some x):∃ l:List Op,(Row w.heap ⟨a,len,cap⟩ 10 (l.flatMap opL)∧∀ o,o∈l→Zxf o)∧l.length+1≤Rows.uptoBulk x.1:=by
  haveI:Inhabited Op:=⟨(0,0,0,0,0,0,0,0,ByteArray.empty,0,())⟩
  obtain ⟨l,h1,h2⟩:=Zg0 (Pa:=Zxf) (μ:=fun _=>1) Zjh (by decide) hu hc (ZzD ht hc hti htr htw hts htk ci cr cw csz ck hf hr) h
  refine ⟨l,h1,?_⟩
  have:=Zlc l
  omega
theorem ZsY {t:TypeId} {fs gs cf:Array Field} {cs:List Value} {fuel:Nat} {x:DataW H × List MemPlace} (ht:P.underlying t=some (.struct fs)) (hc:P.cellsOf t=6) {ti tc tf tg tk:TypeId} (hti:P.underlying ti=some (.int .i64)) (htc:P.underlying tc=some (.struct cf)) (htf:P.underlying tf=some (.slice tg)) (htg:P.underlying tg=some (.struct gs)) (htk:P.underlying tk=some (.int .i64))
    (ci:P.cellsOf ti=1) (cc:P.cellsOf tc=3) (csl:P.cellsOf tf=1) (cg:P.cellsOf tg=4) (ck:P.cellsOf tk=1) (hf:fs.toList.map (fun f=>(f.type,f.offset))=[(ti,0),(ti,1),(tc,2),(tf,5)]) (hcf:cf.toList.map (fun f=>(f.type,f.offset))=[(ti,0),(ti,1),(ti,2)])
    (hg:gs.toList.map (fun f=>(f.type,f.offset))=[(ti,0),(ti,1),(tk,2),(ti,3)]) (h:DataW.trod enc P w base spare held fuel t cs=some x):∃ (a0 a1 a2 a3 a4:Int) (s:Sl) (fl:List F4),cs=[iv a0,iv a1,iv a2,iv a3,iv a4,slV s]∧(Row w.heap s 4 (fl.flatMap f4L)∧(-9223372036854775808≤a1∧a1<9223372036854775808))∧fl.length+1≤Rows.uptoBulk x.1:=by
  obtain ⟨xs,n,rfl,rfl,hl,hlen,hall⟩:=DataW.trod_struct ht h
  rw [hc] at hl
  have hfl:fs.size=4:=by
    have:=congrArg List.length hf
    simpa using this
  match cs,hl with
  | [c0,c1,c2,c3,c4,c5],_ =>
    have fld:∀ {i:Nat} {p:TypeId × Nat} (hi:i<xs.length),([(ti,0),(ti,1),(tc,2),(tf,5)]:List (TypeId × Nat))[i]?=some p→DataW.trod enc P w base spare held n p.1 (([c0,c1,c2,c3,c4,c5].drop p.2).take (P.cellsOf p.1))=some xs[i]:=fun {i p} hi hp=>by
      obtain ⟨f,g1,g2,g3⟩:=ZeE hf hp
      have:=hall i f g1
      rw [g2,g3,List.getElem?_eq_getElem hi] at this
      exact this
    have f0:=fld (i:=0) (by omega) rfl
    have f1:=fld (i:=1) (by omega) rfl
    have f2:=fld (i:=2) (by omega) rfl
    have f3:=fld (i:=3) (by omega) rfl
    dsimp only at f0 f1 f2 f3
    rw [ci] at f0 f1
    rw [cc] at f2
    rw [csl] at f3
    obtain ⟨m0,h0,_⟩:=DataW.trod_int hti f0
    obtain ⟨m1,h1,_,w1⟩:=DataW.trod_int hti f1
    simp at h0 h1
    subst h0 h1
    have hcl:∃ m2 m3 m4:Int,[c2,c3,c4]=[iv m2,iv m3,iv m4]:=by
      obtain ⟨ys,k,_,_,hl2,hlen2,hall2⟩:=DataW.trod_struct htc f2
      have hfl2:cf.size=3:=by
        have:=congrArg List.length hcf
        simpa using this
      have fld2:∀ {i:Nat} {p:TypeId × Nat} (hi:i<ys.length),([(ti,0),(ti,1),(ti,2)]:List (TypeId × Nat))[i]?=some p→DataW.trod enc P w base spare held k p.1 (([c2,c3,c4].drop p.2).take (P.cellsOf p.1))=some ys[i]:=fun {i p} hi hp=>by
        obtain ⟨f,g1,g2,g3⟩:=ZeE hcf hp
        have:=hall2 i f g1
        rw [g2,g3,List.getElem?_eq_getElem hi] at this
        exact this
      have g0:=fld2 (i:=0) (by omega) rfl
      have g1:=fld2 (i:=1) (by omega) rfl
      have g2:=fld2 (i:=2) (by omega) rfl
      dsimp only at g0 g1 g2
      rw [ci] at g0 g1 g2
      obtain ⟨m2,h2,_⟩:=DataW.trod_int hti g0
      obtain ⟨m3,h3,_⟩:=DataW.trod_int hti g1
      obtain ⟨m4,h4,_⟩:=DataW.trod_int hti g2
      simp at h2 h3 h4
      exact ⟨m2,m3,m4,by rw [h2,h3,h4]⟩
    obtain ⟨m2,m3,m4,hcl⟩:=hcl
    simp only [List.cons.injEq,and_true] at hcl
    obtain ⟨rfl,rfl,rfl⟩:=hcl
    have h5:∃ sl:Sl,c5=slV sl:=by
      rcases Deep.open_slice htf f3 with ⟨hcs,_⟩ | ⟨a',len',cap',m,n',D,Pl,hcs,_⟩
      ·simp at hcs
       exact ⟨⟨none,0,0⟩,hcs⟩
      ·simp at hcs
       exact ⟨⟨some a',len',cap'⟩,hcs⟩
    obtain ⟨sl,rfl⟩:=h5
    obtain ⟨fl,q1,q2⟩:=Zxc htf htg cg hti htk ci ck hg f3
    refine ⟨m0,m1,m2,m3,m4,sl,fl,rfl,⟨q1,ZyJ w1⟩,?_⟩
    simp only [Rows.uptoBulk]
    have hx3:xs[3]∈xs:=List.getElem_mem (by omega)
    have hb:=Tk.ZlQ (List.mem_map_of_mem (f:=fun y:DataW H × List MemPlace=>y.1) hx3)
    omega
end
end Go.Proofs.YtbppjmcinoffnaaGreat
