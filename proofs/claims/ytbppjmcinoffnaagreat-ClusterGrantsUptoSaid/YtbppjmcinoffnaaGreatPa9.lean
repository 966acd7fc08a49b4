/- A frame's reader. (gathered by carve.py out of texts proved for other seats) -/
import Derived.Test.YtbppjmcinoffnaaGreatPa8
set_option linter.unusedVariables false
set_option linter.unusedSimpArgs false
namespace Go.Proofs.YtbppjmcinoffnaaGreat
open Go Go.Fw
theorem Zfh {b o:Nat} {K:Nat→Nat→Prop} (hk:K b o):Zd (some ⟨b,o,none⟩) K:=⟨b,o,rfl,hk⟩
def Ze3 (all:List UInt8):List (List UInt8) × Bool × List UInt8 :=
  if h:all.length<4 then ([],false,all) else
  if ZfU all=false then ([],true,[]) else
  if all.length - 4<ZeS all then ([],false,all) else
  ((all.drop 4).take (ZeS all)::(Ze3 (all.drop (4+ZeS all))).1,(Ze3 (all.drop (4+ZeS all))).2)
termination_by all.length
decreasing_by all_goals (simp;omega)
def putS (st:List UInt8) (br:Bool) (l:List UInt8):List (List UInt8) × Bool × List UInt8:=if br then ([],true,st) else Ze3 (st++l)
theorem ZdU {all:List UInt8} (h:all.length<4):Ze3 all=([],false,all):=by
  rw [Ze3,dif_pos h]
theorem Zly {all:List UInt8} (h:¬ all.length<4) (h2:ZfU all=false):Ze3 all=([],true,[]):=by
  rw [Ze3,dif_neg h,if_pos h2]
theorem Zhx {all:List UInt8} (h:¬ all.length<4) (h2:ZfU all=true) (h3:all.length - 4<ZeS all):Ze3 all=([],false,all):=by
  rw [Ze3,dif_neg h,if_neg (by simp [h2]),if_pos h3]
theorem Zhy {all:List UInt8} (h:¬ all.length<4) (h2:ZfU all=true) (h3:¬ all.length - 4<ZeS all) :
    Ze3 all=((all.drop 4).take (ZeS all)::(Ze3 (all.drop (4+ZeS all))).1,(Ze3 (all.drop (4+ZeS all))).2):=by
  rw [Ze3,dif_neg h,if_neg (by simp [h2]),if_neg h3]
structure IsG (T:TypeId) (h:Zb) (b:Nat) (S:Nat→Prop) (st:List UInt8) (br:Bool):Prop where
  cells:∃ s:Sl,h[b]?=some (.cells #[slV s,.bool br] T (0,0))∧Bytes h s st∧(∀ k,s.blk=some k→S k)∧(br=true→s=⟨none,0,0⟩∧st=[])
variable {T:TypeId} {h h':Zb} {b:Nat} {S S':Nat→Prop} {st:List UInt8} {br:Bool}
theorem IsG.lt (hr:IsG T h b S st br):b<h.size:=by
  obtain ⟨s,hb,_⟩:=hr.cells
  rcases Nat.lt_or_ge b h.size with hl | hl
  ·exact hl
  ·rw [Array.getElem?_eq_none hl] at hb;cases hb
theorem IsG.mono (hr:IsG T h b S st br) (hs:∀ k,S k→S' k):IsG T h b S' st br:=by
  obtain ⟨s,h1,h2,h3,h4⟩:=hr.cells
  exact ⟨s,h1,h2,fun k hk=>hs k (h3 k hk),h4⟩
theorem IsG.upd {U:Nat→Prop} (hr:IsG T h b S st br) (hu:Upd U h h') (hb:¬ U b) (hs:∀ k,S k→¬ U k):IsG T h' b S st br:=by
  have hlt:=hr.lt
  obtain ⟨s,h1,h2,h3,h4⟩:=hr.cells
  exact ⟨s,by rw [hu.old b hlt hb];exact h1,h2.congr fun k o hp _ hl=>hu.old k hl (hs k (h3 k (by simp [Sl.blk,hp]))),h3,h4⟩
theorem IsG.ext (hr:IsG T h b S st br) (he:Ext h h'):IsG T h' b S st br:=hr.upd (U:=fun _=>False) (he.upd _) id fun _ _=>id
theorem IsG.cell1 (hr:IsG T h b S st br) {K:Bool→Prop} (hk:K br):ldB h b 1 K:=by
  obtain ⟨s,hb,hs,_⟩:=hr.cells
  exact ⟨br,by rw [Zn hb];rfl,hk⟩
theorem Znd {h:Zb} {b:Nat} {st:List UInt8} {br:Bool} {s:Sl} {l:List UInt8} {K:Sl→Int→Zb→Prop} (hr:IsG 173 h b (fun k=>k≠b) st br) (hs:Bytes h s l) (hsz:st.length+l.length≤1099511627776)
    (hk:∀ out h' mid,h.size≤mid→mid≤h'.size→Xj h' mid out (putS st br l).1→IsG 173 h' b (fun k=>h.size≤k∧k<mid) (putS st br l).2.2 (putS st br l).2.1→Upd (· = b) h h'→K out (if (putS st br l).2.1 then 50 else 0) h') :
    Y5 (some ⟨b,0,none⟩) s K h:=by
  unfold Y5 ZdB
  simp only [Zc,ZG]
  refine Zl (Zfh (hr.cell1 ?_))
  have hblt:=hr.lt
  cases br with
  | true =>
    refine ZF ?_
    have:=hk ⟨none,0,0⟩ h h.size (Nat.le_refl _) (Nat.le_refl _) (Xj.nil h _) ?_ (Upd.refl _ h)
    ·exact this
    ·obtain ⟨q,h1,h2,h3,h4⟩:=hr.cells
     obtain ⟨rfl,h5⟩:=h4 rfl
     exact ⟨⟨none,0,0⟩,h1,h2,by simp [Sl.blk],fun _=>⟨rfl,h5⟩⟩
  | false =>
    refine Zl (Zfh ?_)
    obtain ⟨q,hq,hqs,hqb,_⟩:=hr.cells
    have hp:putS st false l=Ze3 (st++l):=rfl
    rw [hp] at hk
    refine ⟨q,by rw [Zn hq];rfl,?_⟩
    refine Zep hqs (by omega) fun s1 h1 ho1 hext1 _=>?_
    refine (hs.ext hext1).rd ?_
    have hslen:=hs.length
    have h1len:s1.len=st.length:=Bytes.length ho1.row
    refine Own.app ho1 (by simp [hslen]) (Zfa l) rfl (by simp;omega) (by omega) hext1.size ?_
    intro all0 h2 ho2 hl2 hu2 hblk2
    rw [← List.map_append] at ho2
    have hext2:Ext h h2:=hext1.then hu2 fun k hk=>(ho1.lt hk).1
    have hq2:h2[b]?=some (.cells #[slV q,.bool false] 173 (0,0)):=by rw [hext2.old b hblt];exact hq
    let Rel:Sl × Sl × Unit→Zb→List UInt8→Prop:=fun p h' rest =>
      Bytes h' p.1 rest∧(∀ k,p.1.blk=some k→h.size≤k∧k<h2.size)∧Ext h2 h'∧∃ ls,Xj h' h2.size p.2.1 ls∧ls.length+rest.length≤st.length+l.length∧Ze3 (st++l)=(ls++(Ze3 rest).1,(Ze3 rest).2)
    refine ZbA (fun p h'=>∃ rest,Rel p h' rest∧(Ze3 rest)=([],false,rest)) ?_ ?_
    ·rintro ⟨all,out,u⟩ h' ⟨rest,⟨hall,hallb,hextb,ls,hls,hlen,hcut⟩,hrest⟩
     have hext:=hext2.trans hextb
     dsimp only at hall hallb hls ⊢
     rw [hrest] at hcut
     simp only [List.append_nil] at hcut
     have hq':h'[b]?=some (.cells #[slV q,.bool false] 173 (0,0)):=by rw [hext.old b hblt];exact hq
     refine Zfh (Zk6 hq' (by simp) rfl ?_)
     have hpb:(h'.put b 0 (slV all))[b]?=some (.cells #[slV all,.bool false] 173 (0,0)):=by rw [Zf2 hq'];rfl
     rw [hcut] at hk
     have hz2:=hext2.size
     refine hk out _ h2.size hz2 (by rw [ZeH];exact hextb.size) (hls.congr fun k hk1 hk2=>Zdm (by omega)) ?_ ((hext.upd _).trans (Upd.put h' b 0 _))
     refine ⟨all,hpb,?_,hallb,by simp⟩
     refine hall.congr fun k o hp _ _=>Zdm ?_
     have:=(hallb k (by simp [Sl.blk,hp])).1
     omega
    ·refine Yc (fun p h'=>∃ rest,Rel p h' rest) (fun p _=>p.1.len) ?_ ?_
     ·refine ⟨st++l,?_,?_,Ext.refl h2,[],Xj.nil h2 _,by simp,by simp⟩
      ·exact ho2.row
      ·intro k hk1
       exact ho2.lt hk1
     ·rintro ⟨all,out,u⟩ h' ⟨rest,hall,hallb,hextb,ls,hls,hlen,hcut⟩
      have hext:=hext2.trans hextb
      have hz2:=hext2.size
      have hzb:=hextb.size
      dsimp only at hall hallb hls ⊢
      have hal:=hall.length
      refine Zj (fun h4=>?_) (fun h4=>?_)
      ·have h4':¬ rest.length<4:=by omega
       refine ZnM hall ?_
       refine ⟨fun hbad=>?_,fun hgood=>?_⟩
       ·have hbad':ZfU rest=false:=by simpa using hbad
        rw [Zly h4' hbad'] at hcut
        simp only [List.append_nil] at hcut
        have hq':h'[b]?=some (.cells #[slV q,.bool false] 173 (0,0)):=by rw [hext.old b hblt];exact hq
        refine Zfh (Zk6 hq' (by simp) rfl ?_)
        have hq2:(h'.put b 0 (.slice none 0 0))[b]?=some (.cells #[slV ⟨none,0,0⟩,.bool false] 173 (0,0)):=by rw [Zf2 hq'];rfl
        refine Zfh (Zk6 hq2 (by simp) rfl ?_)
        rw [hcut] at hk
        refine hk out _ h2.size hz2 (by rw [ZeH,ZeH];exact hzb) (hls.congr fun k hk1 hk2=>?_) ?_ (((hext.upd _).trans (Upd.put h' b 0 _)).trans (Upd.put _ b 1 _))
        ·rw [Zdm (by omega),Zdm (by omega)]
        ·exact ⟨⟨none,0,0⟩,by rw [Zf2 hq2];rfl,Row.nil _ 1,by simp [Sl.blk],fun _=>⟨rfl,rfl⟩⟩
       ·have hgood':ZfU rest=true:=by simpa using hgood
        have hpos:=Zmy h4' hgood'
        rw [hal,ZR (by omega) (by omega)]
        refine Zj (fun h5=>?_) (fun h5=>?_)
        ·refine ⟨rest,⟨hall,hallb,hextb,ls,hls,hlen,hcut⟩,Zhx h4' hgood' (by omega)⟩
        ·have h5':¬ rest.length - 4<ZeS rest:=by omega
         have hw:IntKind.wrap .i64 ((4:Int)+(ZeS rest:Int))=((4+ZeS rest:Nat):Int):=by rw [ZR (by omega) (by omega)];omega
         rw [hw]
         have hcap:=hall.cap
         refine Row.slc hall (a:=4) (b:=4+ZeS rest) (m:=all.cap) rfl rfl rfl (by omega) (by omega) (by omega) (Nat.le_refl _) ?_
         intro p1 hp1 _ _ _
         have hp1':Bytes h' p1 ((rest.drop 4).take (ZeS rest)):=by
           have e:((rest.map bv).drop 4).take (4+ZeS rest - 4)=((rest.drop 4).take (ZeS rest)).map bv:=by
             rw [List.map_take,List.map_drop];congr 1;omega
           rw [e] at hp1;exact hp1
         refine Zep hp1' (by simp;omega) fun p2 h3 hop2 hext3 _=>?_
         refine ZdL ?_
         have hext4:=Ext.push h3 (.cells [slV p2].toArray 126)
         have hrow:Row (h3.push (.cells [slV p2].toArray 126)) ⟨some ⟨h3.size,0,none⟩,1,1⟩ 1 [slV p2]:=(Own.newC (h:=h3) (cells:=[slV p2]) (t:=126) (size:=1) (n:=1) rfl (by decide)).row
         refine hrow.rd ?_
         obtain ⟨ss,g1,g2,g3,g4,g5⟩:=hls.rows
         have hext34:=hext3.trans hext4
         have g1':=g1.congr (h':=h3.push (.cells [slV p2].toArray 126)) fun k _ hl _=>hext34.old k hl
         have holen:=hls.len
         refine Own.app g1' (by simp) rfl rfl (by omega) (by omega) (by have:=hextb.size;have:=hext3.size;simp;omega) ?_
         intro out' h5 ho5 hl5 hu5 hblk5
         refine Row.slc (h:=h5) (s:=all) (vs:=rest.map bv) ?_ (a:=4+ZeS rest) (b:=rest.length) (m:=all.cap) rfl rfl rfl (by omega) (by omega) (by omega) (Nat.le_refl _) ?_
         ·refine (hall.ext hext34).congr fun k o hp _ hl=>hu5.old k hl fun hsb=>?_
          have:=(g1.lt hsb).1
          have:=(hallb k (by simp [Sl.blk,hp])).2
          omega
         ·intro all' hall' _ _ hblk'
          have hdrop:((rest.map bv).drop (4+ZeS rest)).take (rest.length - (4+ZeS rest))=(rest.drop (4+ZeS rest)).map bv:=by
            rw [List.map_drop,List.take_of_length_le (by simp)]
          rw [hdrop] at hall'
          have hext5:Ext h2 h5:=(hextb.trans hext34).then hu5 fun k hk1=>by
            have:=(g1.lt hk1).1;exact this
          refine ⟨⟨rest.drop (4+ZeS rest),hall',?_,hext5,ls++[(rest.drop 4).take (ZeS rest)],?_,?_,?_⟩,?_⟩
          ·intro k hk1
           exact hallb k (hblk' k hk1)
          ·refine Xj.snoc (x:=p2) (h1:=h3.push (.cells [slV p2].toArray 126)) hls hext34 ?_ ?_ ?_ hu5 hblk5
           ·exact hop2.congr fun k _ hl _=>hext4.old k hl
           ·exact hextb.size
           ·intro vs hv1 _
            have:vs=ss.map slV:=by
              rcases hv1.at_ with ⟨hz1,hz2⟩ | ⟨k1,c1,e1,z1,z2,z3,z4,z5⟩
              ·have a1:=hv1.len
               have a2:=g1.len
               have a3:=hv1.cap
               have b1:vs=[]:=List.eq_nil_of_length_eq_zero (by rw [a1];omega)
               have b2:ss.map slV=[]:=List.eq_nil_of_length_eq_zero (by rw [a2];omega)
               rw [b1,b2]
              ·rcases g1.at_ with ⟨hz1,hz2⟩ | ⟨k2,c2,e2,y1,y2,y3,y4,y5⟩
               ·rw [hz1] at z1;cases z1
               ·rw [z1] at y1
                cases y1
                rw [z3] at y3
                cases y3
                rw [z5,y5]
            rw [this]
            exact ho5
          ·simp;omega
          ·rw [hcut,Zhy h4' hgood' h5']
           simp
          ·have:=Bytes.length hall'
           simp at this
           omega
      ·exact ⟨rest,⟨hall,hallb,hextb,ls,hls,hlen,hcut⟩,ZdU (by omega)⟩
theorem Zlx:∀ (n:Nat) (all:List UInt8),all.length≤n→(∀ l∈(Ze3 all).1,1≤l.length∧l.length≤4096)∧(Ze3 all).2.2.length≤4099∧((Ze3 all).2.1=true→(Ze3 all).2.2=[])∧(Ze3 all).1.length≤all.length
  | n,all,hn=>by
    by_cases h1:all.length<4
    ·rw [ZdU h1];exact ⟨by simp,by simp;omega,by simp,by simp⟩
    ·cases h2:ZfU all with
     | false=>rw [Zly h1 h2];exact ⟨by simp,by simp,by simp,by simp⟩
     | true =>
       have hp:=Zmy h1 h2
       by_cases h3:all.length - 4<ZeS all
       ·rw [Zhx h1 h2 h3];exact ⟨by simp,by simp;omega,by simp,by simp⟩
       ·rw [Zhy h1 h2 h3]
        cases n with
        | zero=>omega
        | succ n =>
          obtain ⟨g1,g2,g3,g4⟩:=Zlx n (all.drop (4+ZeS all)) (by simp;omega)
          simp at g4
          refine ⟨?_,g2,g3,by simp;omega⟩
          intro l hl
          rcases List.mem_cons.1 hl with rfl | hl
          ·simp;omega
          ·exact g1 l hl
theorem ZtQ (st:List UInt8) (br:Bool) (l:List UInt8) (hst:st.length≤4099) (hbr:br=true→st=[]) :
    (∀ x∈(putS st br l).1,1≤x.length∧x.length≤4096)∧(putS st br l).2.2.length≤4099∧((putS st br l).2.1=true→(putS st br l).2.2=[])∧(br=true→(putS st br l).1=[]∧(putS st br l).2.1=true)∧(putS st br l).1.length≤st.length+l.length:=by
  unfold putS
  cases br with
  | true=>exact ⟨by simp,hst,fun _=>hbr rfl,fun _=>⟨rfl,rfl⟩,by simp⟩
  | false =>
    obtain ⟨g1,g2,g3,g4⟩:=Zlx _ (st++l) (Nat.le_refl _)
    simp at g4
    exact ⟨g1,g2,g3,by simp,g4⟩
theorem ZoJ {a c:List UInt8} (h:¬ a.length<4):ZeS (a++c)=ZeS a:=by
  unfold ZeS
  rw [List.take_append_of_le_length (by omega)]
theorem Zr7 {a c:List UInt8} (h:¬ a.length<4):ZfU (a++c)=ZfU a:=by
  unfold ZfU
  have:(a++c).length=a.length+c.length:=by simp
  rw [ZoJ h,if_neg (by omega),if_neg (by omega),if_neg (by omega),if_neg (by omega)]
theorem Zn6:∀ (ll:List (List UInt8)),(∀ l∈ll,good l)→Ze3 (fr ll)=(ll,false,[])
  | [],_=>ZdU (by simp [fr])
  | l::ll,h=>by
    obtain ⟨h1,h2,h3,h4,h5,h6⟩:=Zsq (ll:=ll) (h l (by simp))
    rw [Zhy h1 h3 (by rw [h2];exact h4),h2,h5,h6,Zn6 ll fun x hx=>h x (by simp [hx])]
def ZjO (h:Zb) (mb:Nat) (l:List (Int × Int)):Prop :=
  ∃ es clk,h[mb]?=some (.map es clk)∧MapKept.Stamped es clk∧es.toList.map (fun e=>(e.key,e.val))=l.map (fun p=>(iv p.1,iv p.2))
def Asc (l:List (Int × Int)):Prop:=l.Pairwise (fun a b=>a.1<b.1)
theorem ZjO.congr {h h':Zb} {mb:Nat} {l:List (Int × Int)} (hm:ZjO h mb l) (he:h'[mb]?=h[mb]?):ZjO h' mb l:=by
  obtain ⟨es,clk,hb,hs,hk⟩:=hm
  exact ⟨es,clk,he.trans hb,hs,hk⟩
theorem ZjO.lt {h:Zb} {mb:Nat} {l:List (Int × Int)} (hm:ZjO h mb l):mb<h.size:=by
  obtain ⟨es,clk,hb,hs,hk⟩:=hm
  exact Xl hb
theorem Zjh {α β:Type} (f:α→β):∀ (l:List α) (i:Nat),(l.map f).eraseIdx i=(l.eraseIdx i).map f
  | [],i=>by simp
  | x::l,0=>rfl
  | x::l,i+1=>by simp [Zjh f l i]
theorem ZiK {es:List MapEntry} {l:List (Int × Int)} (hk:es.map (fun e=>(e.key,e.val))=l.map (fun p=>(iv p.1,iv p.2))) {j:Nat} {e:MapEntry} (he:es[j]?=some e):∃ p,l[j]?=some p∧e.key=iv p.1∧e.val=iv p.2:=by
  have h1:(es.map (fun e=>(e.key,e.val)))[j]?=some (e.key,e.val):=by rw [List.getElem?_map,he];rfl
  rw [hk,List.getElem?_map] at h1
  cases hp:l[j]? with
  | none=>rw [hp] at h1;cases h1
  | some p =>
    rw [hp] at h1
    simp only [Option.map_some,Option.some.injEq,Prod.mk.injEq] at h1
    exact ⟨p,rfl,h1.1.symm,h1.2.symm⟩
theorem Zlv {es:List MapEntry} {l:List (Int × Int)} (hk:es.map (fun e=>(e.key,e.val))=l.map (fun p=>(iv p.1,iv p.2))):es.length=l.length:=by
  have:=congrArg List.length hk
  simpa using this
theorem Zof {l:List (Int × Int)} (ha:Asc l) {i j:Nat} {p q:Int × Int} (hp:l[i]?=some p) (hq:l[j]?=some q) (he:p.1=q.1):i=j:=by
  have hi:=(List.getElem?_eq_some_iff.1 hp)
  have hj:=(List.getElem?_eq_some_iff.1 hq)
  obtain ⟨hi,rfl⟩:=hi
  obtain ⟨hj,rfl⟩:=hj
  have:=List.pairwise_iff_getElem.1 ha
  rcases Nat.lt_trichotomy i j with h1 | h1 | h1
  ·have:=this i j hi hj h1;omega
  ·exact h1
  ·have:=this j i hj hi h1;omega
theorem Zhv {es:Array MapEntry} {l:List (Int × Int)} (hk:es.toList.map (fun e=>(e.key,e.val))=l.map (fun p=>(iv p.1,iv p.2))) (n:Int) :
    (Instr.findNow (.int .i64) (iv n) es.toList 0=some none∧∀ p,p∈l→p.1≠n)∨∃ j p,Instr.findNow (.int .i64) (iv n) es.toList 0=some (some (j,iv p.2))∧l[j]?=some p∧p.1=n:=by
  have hkeys:∀ x∈es.toList,MapKept.IsKey (.int .i64) x.key:=fun x hx=>by
    obtain ⟨j,hj⟩:=List.getElem?_of_mem hx
    obtain ⟨p,_,hp,_⟩:=ZiK hk hj
    rw [hp]
    rfl
  rcases MapKept.findNow_spec (d:= .int .i64) (k:=iv n) rfl es.toList 0 hkeys with ⟨h1,h2⟩ | ⟨j,e,h1,h2,h3⟩
  ·refine .inl ⟨h1,fun p hp he=>?_⟩
   obtain ⟨j,hj⟩:=List.getElem?_of_mem hp
   have hl:=Zlv hk
   have hjl:j<es.toList.length:=by rw [hl];exact (List.getElem?_eq_some_iff.1 hj).1
   have hx:=List.getElem?_eq_getElem hjl
   obtain ⟨q,hq,hqk,_⟩:=ZiK hk hx
   rw [hj] at hq
   cases hq
   exact h2 _ (List.mem_of_getElem? hx) (by rw [hqk,he])
  ·obtain ⟨p,hp,hpk,hpv⟩:=ZiK hk h2
   rw [Nat.zero_add] at h1
   rw [hpv] at h1
   refine .inr ⟨j,p,h1,hp,?_⟩
   rw [hpk] at h3
   simpa using h3
theorem ZjO.rising {h:Zb} {mb:Nat} {l:List (Int × Int)} (hm:ZjO h mb l) (ha:Asc l) (hb:∀ p,p∈l→ -9223372036854775808≤p.1∧p.1<9223372036854775808):Zo9 h mb (l.map (·.1)):=by
  obtain ⟨es,clk,h1,h2,h3⟩:=hm
  refine ⟨es,clk,h1,h2,?_,?_,fun x hx=>?_⟩
  ·have:=congrArg (List.map Prod.fst) h3
   simpa [List.map_map,Function.comp_def] using this
  ·exact List.pairwise_map.2 ha
  ·obtain ⟨p,hp,rfl⟩:=List.mem_map.1 hx
   exact hb p hp
theorem ZjO.len_ {h:Zb} {mb:Nat} {l:List (Int × Int)} (hm:ZjO h mb l) {K:Int→Prop} (hk:K (l.length:Int)):ZwU h (some mb) K:=by
  obtain ⟨es,clk,h1,h2,h3⟩:=hm
  refine ⟨fun h9=>(by cases h9),fun b hb=>?_⟩
  cases hb
  refine ⟨es,clk,h1,?_⟩
  have:=Zlv h3
  simp at this
  rw [this]
  exact hk
theorem ZjO.get {h:Zb} {mb:Nat} {l:List (Int × Int)} (hm:ZjO h mb l) (ha:Asc l) {i:Nat} {p:Int × Int} (hp:l[i]?=some p) {K:Option Value→Prop} (hk:K (some (iv p.2))):XF (.int .i64) h (some mb) (iv p.1) K:=by
  obtain ⟨es,clk,h1,h2,h3⟩:=hm
  refine ⟨fun h9=>(by cases h9),fun b hb=>?_⟩
  cases hb
  rcases Zhv h3 p.1 with ⟨_,h5⟩ | ⟨j,q,h4,h5,h6⟩
  ·exact absurd rfl (h5 p (List.mem_of_getElem? hp))
  ·have:=Zof ha hp h5 h6.symm
   subst this
   rw [hp] at h5
   cases h5
   exact ⟨es,clk,_,h1,h4,hk⟩
theorem ZjO.getNone {h:Zb} {mb:Nat} {l:List (Int × Int)} (hm:ZjO h mb l) {n:Int} (hn:∀ p,p∈l→p.1≠n) {K:Option Value→Prop} (hk:K none):XF (.int .i64) h (some mb) (iv n) K:=by
  obtain ⟨es,clk,h1,h2,h3⟩:=hm
  refine ⟨fun h9=>(by cases h9),fun b hb=>?_⟩
  cases hb
  rcases Zhv h3 n with ⟨h4,_⟩ | ⟨j,q,h4,h5,h6⟩
  ·exact ⟨es,clk,_,h1,h4,hk⟩
  ·exact absurd h6 (hn q (List.mem_of_getElem? h5))
theorem Zrg {h:Zb} {b:Nat} {x:Obj}:Upd (· = b) h (h.setIfInBounds b x) :=
  ⟨by simp,fun k _ hk=>by rw [Array.getElem?_setIfInBounds_ne (fun e=>hk e.symm)]⟩
theorem ZjO.put {h:Zb} {mb:Nat} {l:List (Int × Int)} (hm:ZjO h mb l) {n v:Int} (hn:∀ p,p∈l→p.1≠n) {K:Zb→Prop}
    (hk:∀ h',ZjO h' mb (l++[(n,v)])→Upd (· = mb) h h'→h'.size=h.size→K h'):X9 (.int .i64) h (some mb) (iv n) (iv v) K:=by
  have hlt:=hm.lt
  obtain ⟨es,clk,h1,h2,h3⟩:=hm
  have hkeys:∀ x∈es.toList,∃ p,p∈l∧x.key=iv p.1:=fun x hx=>by
    obtain ⟨j,hj⟩:=List.getElem?_of_mem hx
    obtain ⟨p,hp,hpk,_⟩:=ZiK h3 hj
    exact ⟨p,List.mem_of_getElem? hp,hpk⟩
  rcases Zhv h3 n with ⟨h4,_⟩ | ⟨j,q,h4,h5,h6⟩
  ·refine ⟨mb,es,clk,none,rfl,h1,fun x hx=>?_,h4,hk _ ⟨es.push { key:=iv n,val:=iv v,born:=clk },clk+1,?_,?_,?_⟩ Zrg (by simp)⟩
   ·obtain ⟨p,_,hp⟩:=hkeys x hx
    rw [hp]
    rfl
   ·rw [Array.getElem?_setIfInBounds_self_of_lt hlt]
    rfl
   ·refine MapKept.stamped_push h2 fun x hx=>?_
    obtain ⟨p,hpl,hp⟩:=hkeys x hx
    rw [hp]
    intro he
    exact hn p hpl (by simpa using he)
   ·rw [Array.toList_push,List.map_append,h3,List.map_append]
    rfl
  ·exact absurd h6 (hn q (List.mem_of_getElem? h5))
theorem ZjO.del {h:Zb} {mb:Nat} {l:List (Int × Int)} (hm:ZjO h mb l) (ha:Asc l) {i:Nat} {p:Int × Int} (hp:l[i]?=some p) {K:Zb→Prop}
    (hk:∀ h',ZjO h' mb (l.eraseIdx i)→Upd (· = mb) h h'→h'.size=h.size→K h'):Zgb (.int .i64) h (some mb) (iv p.1) K:=by
  have hlt:=hm.lt
  obtain ⟨es,clk,h1,h2,h3⟩:=hm
  refine ⟨fun h9=>(by cases h9),fun b hb=>?_⟩
  cases hb
  rcases Zhv h3 p.1 with ⟨_,h5⟩ | ⟨j,q,h4,h5,h6⟩
  ·exact absurd rfl (h5 p (List.mem_of_getElem? hp))
  ·have:=Zof ha hp h5 h6.symm
   subst this
   refine ⟨es,clk,_,h1,h4,hk _ ⟨es.eraseIdxIfInBounds i,clk,?_,MapKept.stamped_erase h2 i,?_⟩ Zrg (by simp)⟩
   ·rw [Array.getElem?_setIfInBounds_self_of_lt hlt]
    rfl
   ·have hil:i<es.size:=by
      have:=Zlv h3
      have h9:=(List.getElem?_eq_some_iff.1 hp).1
      simp at this
      omega
    unfold Array.eraseIdxIfInBounds
    rw [dif_pos hil,Array.toList_eraseIdx,← Zjh,h3,Zjh]
structure Tld where
  id:Int
  a:An
  fb:Bool
def zAn:An:=(0,0,0,0,0,())
def Zfg (id:Int):Tld:=⟨id,zAn,true⟩
def tC (t:Tld):List Value:=[iv t.id,iv t.a.1,.int .u8 t.a.2.1,iv t.a.2.2.1,iv t.a.2.2.2.1,iv t.a.2.2.2.2.1,.bool t.fb]
theorem ZiU (t:Tld):(tC t).length=7:=rfl
structure Cl where
  tmo:Int
  least:Int
  most:Int
  name:ByteArray
  up:Bool
  last:Int
  next:Int
  waits:List (Int × Int)
  out:List UInt8
  told:List Tld
  dial:Int
  backoff:Int
  rb:List UInt8
  broken:Bool
def clC (rb mb:Nat) (so st:Sl) (c:Cl):Array Value :=
  #[.pointer (some ⟨rb,0,none⟩),iv c.tmo,iv c.least,iv c.most,.string c.name,.bool c.up,iv c.last,iv c.next,.map (some mb),slV so,slV st,iv c.dial,iv c.backoff]
structure ClR (h:Zb) (T:Nat→Option Nat) (cb rb mb:Nat) (so st sb:Sl) (c:Cl):Prop where
  cells:h[cb]?=some (.cells (clC rb mb so st c) 128 (0,0))
  rcell:h[rb]?=some (.cells #[slV sb,.bool c.broken] 173 (0,0))
  map:ZjO h mb c.waits
  out:Own h 0 so 1 (c.out.map bv)
  told:Own h 0 st 7 (c.told.flatMap tC)
  rbs:Bytes h sb c.rb
  tcb:T cb=some 0
  trb:T rb=some 1
  tmb:T mb=some 2
  tso:∀ k,so.blk=some k→T k=some 3
  tst:∀ k,st.blk=some k→T k=some 4
  tsb:∀ k,sb.blk=some k→T k=some 5
  lt:∀ k,T k≠none→k<h.size
def Client (h:Zb) (T:Nat→Option Nat) (cb:Nat) (c:Cl):Prop:=∃ rb mb so st sb,ClR h T cb rb mb so st sb c
theorem ClR.congr {h h':Zb} {T:Nat→Option Nat} {cb rb mb:Nat} {so st sb:Sl} {c:Cl} (hR:ClR h T cb rb mb so st sb c) (hs:h.size≤h'.size) (he:∀ k,T k≠none→h'[k]?=h[k]?):ClR h' T cb rb mb so st sb c :=
  ⟨(he cb (by rw [hR.tcb];simp)).trans hR.cells,(he rb (by rw [hR.trb];simp)).trans hR.rcell,hR.map.congr (he mb (by rw [hR.tmb];simp)),hR.out.congr fun k hk _ _=>he k (by rw [hR.tso k hk];simp),hR.told.congr fun k hk _ _=>he k (by rw [hR.tst k hk];simp),
    hR.rbs.congr fun k o hk _ _=>he k (by rw [hR.tsb k (by simp [Sl.blk,hk])];simp),hR.tcb,hR.trb,hR.tmb,hR.tso,hR.tst,hR.tsb,fun k hk=>Nat.lt_of_lt_of_le (hR.lt k hk) hs⟩
theorem ClR.upd {h h':Zb} {T:Nat→Option Nat} {cb rb mb:Nat} {so st sb:Sl} {c:Cl} {S:Nat→Prop} (hR:ClR h T cb rb mb so st sb c) (hu:Upd S h h') (hd:∀ k,k<h.size→S k→T k=none):ClR h' T cb rb mb so st sb c :=
  hR.congr hu.size fun k hk=>hu.old k (hR.lt k hk) fun hS=>hk (hd k (hR.lt k hk) hS)
theorem ClR.ext {h h':Zb} {T:Nat→Option Nat} {cb rb mb:Nat} {so st sb:Sl} {c:Cl} (hR:ClR h T cb rb mb so st sb c) (he:Ext h h'):ClR h' T cb rb mb so st sb c:=hR.upd (he.upd fun _=>False) fun _ _ h=>h.elim
theorem Client.upd {h h':Zb} {T:Nat→Option Nat} {cb:Nat} {c:Cl} {S:Nat→Prop} (hC:Client h T cb c) (hu:Upd S h h') (hd:∀ k,k<h.size→S k→T k=none):Client h' T cb c:=by
  obtain ⟨rb,mb,so,st,sb,hR⟩:=hC
  exact ⟨rb,mb,so,st,sb,hR.upd hu hd⟩
theorem Client.ext {h h':Zb} {T:Nat→Option Nat} {cb:Nat} {c:Cl} (hC:Client h T cb c) (he:Ext h h'):Client h' T cb c:=hC.upd (he.upd fun _=>False) fun _ _ h=>h.elim
theorem Client.lt {h:Zb} {T:Nat→Option Nat} {cb:Nat} {c:Cl} (hC:Client h T cb c):∀ k,T k≠none→k<h.size:=by
  obtain ⟨rb,mb,so,st,sb,hR⟩:=hC
  exact hR.lt
theorem Za3 {h:Zb} {T:Nat→Option Nat} (hT:∀ k,T k≠none→k<h.size) {k:Nat} (hk:h.size≤k):T k=none:=by
  rcases hTk:T k with _ | t
  ·rfl
  ·have:=hT k (by rw [hTk];simp);omega
theorem ZgU {h:Zb} {b o:Nat} {p:Option Addr} {c:Array Value} {e:TypeId} {K:Option Addr→Prop} (hb:h[b]?=some (.cells c e (0,0))) (hc:c[o]?=some (.pointer p)) (hk:K p):ldP h b o K:=⟨p,(Zn hb).trans hc,hk⟩
theorem ZwV {h:Zb} {b o:Nat} {p:Option Nat} {c:Array Value} {e:TypeId} {K:Option Nat→Prop} (hb:h[b]?=some (.cells c e (0,0))) (hc:c[o]?=some (.map p)) (hk:K p):ldM h b o K:=⟨p,(Zn hb).trans hc,hk⟩
theorem Stp.keep {T T':Nat→Option Nat} {h h':Zb} (st:Stp T T' h h') {b:Nat} {x:Obj} (hT:T b=none) (hq:h[b]?=some x):h'[b]?=some x:=by
  rw [st.upd.old b (Xl hq) fun h9=>h9 hT];exact hq
theorem Stp.none_ {T T':Nat→Option Nat} {h h':Zb} (st:Stp T T' h h') {b:Nat} (hT:T b=none) (hl:b<h.size):T' b=none:=by
  refine Classical.byContradiction fun h9=>?_
  rcases st.new b h9 with h8 | h8
  ·exact h8 hT
  ·omega
theorem Stp.ofExt {T:Nat→Option Nat} {h h':Zb} (e:Ext h h'):Stp T T h h':=⟨e.upd _,fun _ h=> .inl h⟩
theorem Stp.ofUpd {T:Nat→Option Nat} {h h':Zb} {S:Nat→Prop} (u:Upd S h h') (hS:∀ k,k<h.size→S k→T k≠none):Stp T T h h':=⟨u.mono hS,fun _ h=> .inl h⟩
theorem ClR.setF {h:Zb} {T:Nat→Option Nat} {cb rb mb:Nat} {so st sb:Sl} {c:Cl} (hR:ClR h T cb rb mb so st sb c) (c':Cl) {i:Nat} {v:Value} (hi:i<13) (hv:Zv v=true) (hc:clC rb mb so st c'=(clC rb mb so st c).setIfInBounds i v)
    (h1:c'.waits=c.waits) (h2:c'.out=c.out) (h3:c'.told=c.told) (h4:c'.rb=c.rb) (h5:c'.broken=c.broken) {K:Zb→Prop}
    (hk:∀ h',ClR h' T cb rb mb so st sb c'→Stp T T h h'→h'.size=h.size→K h'):Fw.st h cb i v K:=by
  refine Zig hR.cells hi hv fun h' c1 u1 z1=>?_
  have ne:∀ {k t},T k=some t→t≠0→k≠cb:=fun {k t} h8 h9 h7=>by subst h7;rw [hR.tcb] at h8;cases h8;exact h9 rfl
  have old:∀ {k t},T k=some t→t≠0→h'[k]?=h[k]?:=fun {k t} h8 h9=>u1.old k (hR.lt k (by rw [h8];simp)) (ne h8 h9)
  refine hk h' ⟨by rw [c1,hc],by rw [h5];exact (old hR.trb (by decide)).trans hR.rcell,by rw [h1];exact hR.map.congr (old hR.tmb (by decide)),by rw [h2];exact hR.out.congr fun k hk _ _=>old (hR.tso k hk) (by decide),by rw [h3];exact hR.told.congr fun k hk _ _=>old (hR.tst k hk) (by decide),
    by rw [h4];exact hR.rbs.congr fun k o hk _ _=>old (hR.tsb k (by simp [Sl.blk,hk])) (by decide),hR.tcb,hR.trb,hR.tmb,hR.tso,hR.tst,hR.tsb,fun k hk=>by rw [z1];exact hR.lt k hk⟩ (Stp.ofUpd u1 fun k _ hk=>by subst hk;rw [hR.tcb];simp) z1
theorem Zin {h:Zb} {T:Nat→Option Nat} {cb rb mb:Nat} {so st sb:Sl} {c:Cl} (hR:ClR h T cb rb mb so st sb c) (ha:Asc c.waits) (hb:∀ p,p∈c.waits→ -9223372036854775808≤p.1∧p.1<9223372036854775808) (hl:c.waits.length≤1099511627776) {K:Sl→Zb→Prop}
    (hk:∀ s h',Own h' h.size s 1 ((c.waits.map (·.1)).map iv)→Ext h h'→K s h'):Zk (some ⟨cb,0,none⟩) K h:=by
  unfold Zk Zbu
  refine Zl (Zh (ZwV hR.cells rfl ?_))
  unfold YM
  refine Za1 fun h2 c2 e2 z2=>⟨h.size,mb,c.waits.map (·.1),rfl,(Zn c2).trans rfl,(hR.map.congr (e2.old mb hR.map.lt)).rising ha hb,by rw [List.length_map];omega,fun s h' ho he=>hk s h' (ho.base (by omega)) (e2.trans he)⟩
theorem ClR.setTold {h h1:Zb} {T:Nat→Option Nat} {cb rb mb:Nat} {so st sb:Sl} {c:Cl} (hR:ClR h T cb rb mb so st sb c) {x:Sl} {l:List Tld} (hx:Own h1 0 x 7 (l.flatMap tC)) (hnew:∀ k,x.blk=some k→T k=some 4∨h.size≤k) (hu:Upd (fun k=>T k=some 4) h h1)
    {K:Zb→Prop} (hk:∀ h2 T',ClR h2 T' cb rb mb so x sb { c with told:=l }→Stp T T' h h2→Upd (· = cb) h1 h2→K h2):Fw.st h1 cb 10 (slV x) K:=by
  have ne:∀ {k t},T k=some t→t≠4→h1[k]?=h[k]?:=fun {k t} h8 h9=>hu.old k (hR.lt k (by rw [h8];simp)) fun h7=>by rw [h8] at h7;cases h7;exact h9 rfl
  have ncb:∀ {k t},T k=some t→t≠0→k≠cb:=fun {k t} h8 h9 h7=>by subst h7;rw [hR.tcb] at h8;cases h8;exact h9 rfl
  have lcb:=Xl hR.cells
  have c1:h1[cb]?=some (.cells (clC rb mb so st c) _ (0,0)):=(ne hR.tcb (by decide)).trans hR.cells
  refine Zig c1 (by show 10<13;decide) rfl fun h2 c2 u2 z2=>?_
  have x1:∀ k,x.blk=some k→k≠cb:=fun k hx9 h9=>by
    subst h9
    rcases hnew k hx9 with h8 | h8
    ·rw [hR.tcb] at h8;cases h8
    ·omega
  have old:∀ {k t},T k=some t→t≠0→t≠4→h2[k]?=h[k]?:=fun {k t} h8 h9 h7=>(u2.old k (by have:=hR.lt k (by rw [h8];simp);have:=hu.size;omega) (ncb h8 h9)).trans (ne h8 h7)
  have tag:∀ {k t},T k=some t→t≠4→(if x.blk=some k then some 4 else T k)=some t:=fun {k t} h8 h9=>by
    rw [if_neg fun h7=>?_]
    ·exact h8
    ·rcases hnew k h7 with h6 | h6
     ·rw [h8] at h6;cases h6;exact h9 rfl
     ·have:=hR.lt k (by rw [h8];simp);omega
  refine hk h2 (fun k=>if x.blk=some k then some 4 else T k) ⟨c2,(old hR.trb (by decide) (by decide)).trans hR.rcell,hR.map.congr (old hR.tmb (by decide) (by decide)),hR.out.congr fun k hk _ _=>old (hR.tso k hk) (by decide) (by decide),
    hx.congr fun k hk hl _=>u2.old k hl (x1 k hk),hR.rbs.congr fun k o hk _ _=>old (hR.tsb k (by simp [Sl.blk,hk])) (by decide) (by decide),tag hR.tcb (by decide),tag hR.trb (by decide),tag hR.tmb (by decide),fun k hk=>tag (hR.tso k hk) (by decide),fun k hk=>by rw [if_pos hk],fun k hk=>tag (hR.tsb k hk) (by decide),fun k hk=>?_⟩
    ⟨Upd.then (hu.mono fun k _ h8=>by rw [h8];simp) u2 fun k _ h8=>by subst h8;rw [hR.tcb];simp,fun k hk=>?_⟩ u2
  ·have:=hu.size
   by_cases h8:x.blk=some k
   ·have:=(hx.lt h8).2;omega
   ·rw [if_neg h8] at hk
    have:=hR.lt k hk;omega
  ·by_cases h8:x.blk=some k
   ·rcases hnew k h8 with h7 | h7
    ·exact .inl (by rw [h7];simp)
    ·exact .inr h7
   ·rw [if_neg h8] at hk
    exact .inl hk
theorem ClR.setOut {h h1:Zb} {T:Nat→Option Nat} {cb rb mb:Nat} {so st sb:Sl} {c:Cl} (hR:ClR h T cb rb mb so st sb c) {x:Sl} {l:List UInt8} (hx:Own h1 0 x 1 (l.map bv)) (hnew:∀ k,x.blk=some k→T k=some 3∨h.size≤k) (hu:Upd (fun k=>T k=some 3) h h1)
    {K:Zb→Prop} (hk:∀ h2 T',ClR h2 T' cb rb mb x st sb { c with out:=l }→Stp T T' h h2→Upd (· = cb) h1 h2→K h2):Fw.st h1 cb 9 (slV x) K:=by
  have ne:∀ {k t},T k=some t→t≠3→h1[k]?=h[k]?:=fun {k t} h8 h9=>hu.old k (hR.lt k (by rw [h8];simp)) fun h7=>by rw [h8] at h7;cases h7;exact h9 rfl
  have ncb:∀ {k t},T k=some t→t≠0→k≠cb:=fun {k t} h8 h9 h7=>by subst h7;rw [hR.tcb] at h8;cases h8;exact h9 rfl
  have lcb:=Xl hR.cells
  have c1:h1[cb]?=some (.cells (clC rb mb so st c) _ (0,0)):=(ne hR.tcb (by decide)).trans hR.cells
  refine Zig c1 (by show 9<13;decide) rfl fun h2 c2 u2 z2=>?_
  have x1:∀ k,x.blk=some k→k≠cb:=fun k hx9 h9=>by
    subst h9
    rcases hnew k hx9 with h8 | h8
    ·rw [hR.tcb] at h8;cases h8
    ·omega
  have old:∀ {k t},T k=some t→t≠0→t≠3→h2[k]?=h[k]?:=fun {k t} h8 h9 h7=>(u2.old k (by have:=hR.lt k (by rw [h8];simp);have:=hu.size;omega) (ncb h8 h9)).trans (ne h8 h7)
  have tag:∀ {k t},T k=some t→t≠3→(if x.blk=some k then some 3 else T k)=some t:=fun {k t} h8 h9=>by
    rw [if_neg fun h7=>?_]
    ·exact h8
    ·rcases hnew k h7 with h6 | h6
     ·rw [h8] at h6;cases h6;exact h9 rfl
     ·have:=hR.lt k (by rw [h8];simp);omega
  refine hk h2 (fun k=>if x.blk=some k then some 3 else T k) ⟨c2,(old hR.trb (by decide) (by decide)).trans hR.rcell,hR.map.congr (old hR.tmb (by decide) (by decide)),hx.congr fun k hk hl _=>u2.old k hl (x1 k hk),
    hR.told.congr fun k hk _ _=>old (hR.tst k hk) (by decide) (by decide),hR.rbs.congr fun k o hk _ _=>old (hR.tsb k (by simp [Sl.blk,hk])) (by decide) (by decide),tag hR.tcb (by decide),tag hR.trb (by decide),tag hR.tmb (by decide),fun k hk=>by rw [if_pos hk],fun k hk=>tag (hR.tst k hk) (by decide),fun k hk=>tag (hR.tsb k hk) (by decide),fun k hk=>?_⟩
    ⟨Upd.then (hu.mono fun k _ h8=>by rw [h8];simp) u2 fun k _ h8=>by subst h8;rw [hR.tcb];simp,fun k hk=>?_⟩ u2
  ·have:=hu.size
   by_cases h8:x.blk=some k
   ·have:=(hx.lt h8).2;omega
   ·rw [if_neg h8] at hk
    have:=hR.lt k hk;omega
  ·by_cases h8:x.blk=some k
   ·rcases hnew k h8 with h7 | h7
    ·exact .inl (by rw [h7];simp)
    ·exact .inr h7
   ·rw [if_neg h8] at hk
    exact .inl hk
theorem ClR.setMap {h h1:Zb} {T:Nat→Option Nat} {cb rb mb:Nat} {so st sb:Sl} {c:Cl} (hR:ClR h T cb rb mb so st sb c) {l:List (Int × Int)} (hm:ZjO h1 mb l) (u1:Upd (· = mb) h h1) (z1:h1.size=h.size):ClR h1 T cb rb mb so st sb { c with waits:=l }∧Stp T T h h1:=by
  have nm:∀ {k t},T k=some t→t≠2→k≠mb:=fun {k t} h8 h9 h7=>by subst h7;rw [hR.tmb] at h8;cases h8;exact h9 rfl
  have old:∀ {k t},T k=some t→t≠2→h1[k]?=h[k]?:=fun {k t} h8 h9=>u1.old k (hR.lt k (by rw [h8];simp)) (nm h8 h9)
  exact ⟨⟨(old hR.tcb (by decide)).trans hR.cells,(old hR.trb (by decide)).trans hR.rcell,hm,hR.out.congr fun k hk _ _=>old (hR.tso k hk) (by decide),hR.told.congr fun k hk _ _=>old (hR.tst k hk) (by decide),hR.rbs.congr fun k o hk _ _=>old (hR.tsb k (by simp [Sl.blk,hk])) (by decide),hR.tcb,hR.trb,hR.tmb,hR.tso,hR.tst,hR.tsb,fun k hk=>by rw [z1];exact hR.lt k hk⟩,
    Stp.ofUpd u1 fun k _ hk=>by subst hk;rw [hR.tmb];simp⟩
def Cl.fallI (c:Cl) (i:Nat) (id:Int):Cl:={ c with waits:=c.waits.eraseIdx i,told:=c.told++[Zfg id]}
theorem ZmQ {h:Zb} {T:Nat→Option Nat} {cb:Nat} {c:Cl} (hC:Client h T cb c) (ha:Asc c.waits) {i:Nat} {p:Int × Int} (hp:c.waits[i]?=some p) (hl:c.told.length≤1099511627776) {K:Zb→Prop}
    (hk:∀ h' T',Client h' T' cb (c.fallI i p.1)→Stp T T' h h'→K h'):Zq (some ⟨cb,0,none⟩) p.1 K h:=by
  obtain ⟨rb,mb,so,st,sb,hR⟩:=hC
  unfold Zq ZcB
  refine Zh (ZwV hR.cells rfl (hR.map.del ha hp fun h1 m1 u1 z1=>Zh ?_))
  obtain ⟨hR1,st1⟩:=hR.setMap m1 u1 z1
  refine Zjk (s:=st) hR1.cells rfl (Za1 fun h6 c6 e6 z6=>?_)
  have hrow:Row h6 ⟨some ⟨h1.size,0,none⟩,1,1⟩ 7 (tC (Zfg p.1)):=⟨rfl,Nat.le_refl _,(show 1<9223372036854775808 by decide),.inr ⟨h1.size,0,rfl,ZaD c6 fun i v hi=>by simpa [tC,Zfg,zAn] using hi⟩⟩
  have htl:st.len=c.told.length:=by
    have:=hR.told.len
    rw [Z7 ZiU] at this
    omega
  have hlast:=hR1.told.congr (h':=h6) fun k _ hl _=>e6.old k hl
  refine hrow.rd (Own.app hlast rfl rfl rfl (by omega) (by omega) (Nat.zero_le _) fun t7 h8 ho8 hl8 hu8 hblk=>Zh ?_)
  have e:({ c with waits:=c.waits.eraseIdx i }:Cl).told.flatMap tC++tC (Zfg p.1)=(c.told++[Zfg p.1]).flatMap tC:=by simp
  rw [e] at ho8
  refine hR1.setTold ho8 (fun k hk=>?_) (Upd.then (e6.upd _) hu8 fun k _ h8=>hR1.tst k h8) fun h11 T11 hR11 st11 _=>?_
  ·rcases hblk with h9 | h9
   ·exact .inl (hR1.tst k (h9▸hk))
   ·rw [h9] at hk
    cases hk
    exact .inr (by omega)
  ·exact hk h11 T11 ⟨rb,mb,so,t7,sb,hR11⟩ (st1.trans st11)
def Zbc (tmo at_:Int) (p:Int × Int):Bool:=decide (at_ - p.2<tmo)
def Cl.tick (c:Cl) (at_:Int):Cl :=
  { c with last:=at_,waits:=c.waits.filter (Zbc c.tmo at_),told:=c.told++(c.waits.filter fun p=> !Zbc c.tmo at_ p).map fun p=>Zfg p.1 }
def Cl.atE (c:Cl) (at_:Int):Int:=if at_<0 then 2 else if at_>1152921504606846976 then 2 else if at_<c.last then 7 else 0
structure WOK (c:Cl):Prop where
  asc:Asc c.waits
  ids:∀ p,p∈c.waits→1≤p.1∧p.1<c.next
  ats:∀ p,p∈c.waits→0≤p.2∧p.2≤c.last
  last:0≤c.last∧c.last≤1152921504606846976
  next:1≤c.next∧c.next≤4611686018427387904
  sum:c.told.length+c.waits.length≤1073741824
theorem Zfk {l:List (Int × Int)} (ha:Asc l) (f:Int × Int→Bool):Asc (l.filter f):=List.Pairwise.filter f ha
def Cl.tickK (c:Cl) (at_:Int) (k:Nat):Cl :=
  { c with last:=at_,waits:=(c.waits.take k).filter (Zbc c.tmo at_)++c.waits.drop k,told:=c.told++((c.waits.take k).filter fun p=> !Zbc c.tmo at_ p).map fun p=>Zfg p.1 }
theorem ZdD {h:Zb} {T:Nat→Option Nat} {cb:Nat} {c:Cl} (hC:Client h T cb c) (hW:WOK c) {at_:Int} {thenM:(Int→Zb→Prop)→Zb→Prop} {K:Int→Zb→Prop}
    (hbad:c.atE at_≠0→K (c.atE at_) h)
    (hgo:c.atE at_=0→∀ h' T',Client h' T' cb (c.tick at_)→Stp T T' h h'→thenM K h') :
    Zu Zk Zq thenM (some ⟨cb,0,none⟩) at_ K h:=by
  obtain ⟨rb,mb,so,st,sb,hR⟩:=hC
  unfold Zu
  unfold Cl.atE at hbad hgo
  have hlast:=hW.last
  have hnext:=hW.next
  have hsum:=hW.sum
  refine Za (Zx (Zl (Zj (fun h0=>?_) fun h0=>Zx (Zj (fun h1=>?_) fun h1=>Zh (YS hR.cells rfl (Zx (Zj (fun h2=>?_) fun h2=>?_)))))))
  ·rw [if_pos h0] at hbad
   exact hbad (by decide)
  ·rw [if_neg h0,if_pos h1] at hbad
   exact hbad (by decide)
  ·rw [if_neg h0,if_neg h1,if_pos h2] at hbad
   exact hbad (by decide)
  ·rw [if_neg h0,if_neg h1,if_neg h2] at hgo
   have hgo:=hgo rfl
   refine Zh (hR.setF { c with last:=at_ } (by decide) rfl rfl rfl rfl rfl rfl rfl fun h11 hR11 st11 z11=>?_)
   have hb64:∀ p,p∈c.waits→ -9223372036854775808≤p.1∧p.1<9223372036854775808:=fun p hp=>by have:=hW.ids p hp;omega
   refine Zin hR11 hW.asc hb64 (by show c.waits.length≤_;omega) fun s h13 hs13 e13=>?_
   have hsl:s.len=c.waits.length:=by
     have:=hs13.len
     simp at this
     omega
   have hs0:∀ k,s.blk=some k→T k=none:=fun k hk=>Za3 hR.lt (by have:=(hs13.lt hk).1;omega)
   have l11:=hR11.lt
   refine Yc (fun p h'=>∃ (k:Nat) (T':Nat→Option Nat),p.1=(k:Int)∧k≤c.waits.length∧Client h' T' cb (c.tickK at_ k)∧Stp T T' h13 h') (fun p _=>c.waits.length - p.1.toNat)
     ⟨0,T,rfl,Nat.zero_le _,⟨rb,mb,so,st,sb,?_⟩,Stp.refl _ _⟩ ?_
   ·have e:c.tickK at_ 0={ c with last:=at_ }:=by simp [Cl.tickK]
    rw [e]
    exact hR11.ext e13
   rintro ⟨i,u⟩ h15 ⟨k,T15,hi,hkl,hC15,st15⟩
   dsimp only at hi
   subst hi
   dsimp only
   refine Zj (fun hlt=>?_) (fun hge=>?_)
   ·have hk1:k<c.waits.length:=by omega
    have hp:c.waits[k]?=some c.waits[k]:=List.getElem?_eq_getElem hk1
    have htk:c.waits.take (k+1)=c.waits.take k++[c.waits[k]]:=List.take_succ_eq_append_getElem hk1
    have hdk:c.waits.drop k=c.waits[k]::c.waits.drop (k+1):=List.drop_eq_getElem_cons hk1
    have hmem:c.waits[k]∈c.waits:=List.getElem_mem hk1
    generalize c.waits[k]=p at hp htk hdk hmem
    have hsr:ZiL h15 s (c.waits.map (·.1)):=(hs13.congr (h':=h15) fun k hk hl _=>st15.upd.old k hl fun h9=>h9 (hs0 k hk)).row
    refine ZiL.idx hsr rfl (x:=p.1) (by rw [List.getElem?_map,hp];rfl) (Za (Zh (Zh ?_)))
    obtain ⟨rb5,mb5,so5,st5,sb5,hR5⟩:=hC15
    have hasc:Asc (c.tickK at_ k).waits:=by
      have hsub:((c.waits.take k).filter (Zbc c.tmo at_)++c.waits.drop k).Sublist c.waits:=by
        conv=>rhs;rw [← List.take_append_drop k c.waits]
        exact List.Sublist.append List.filter_sublist (List.Sublist.refl _)
      exact List.Pairwise.sublist hsub hW.asc
    have hpos:(c.tickK at_ k).waits[((c.waits.take k).filter (Zbc c.tmo at_)).length]?=some p:=by
      show ((c.waits.take k).filter (Zbc c.tmo at_)++c.waits.drop k)[_]?=_
      rw [hdk,List.getElem?_append_right (Nat.le_refl _),Nat.sub_self]
      rfl
    have hat:=hW.ats p hmem
    refine ZwV hR5.cells rfl (YS hR5.cells rfl (hR5.map.get hasc hpos ⟨p.2,rfl,⟨(Zn hR5.cells).trans rfl,trivial⟩,?_⟩))
    rw [ZR (n:=at_ - p.2) (by omega) (by omega),ZR (n:=(k:Int)+1) (by omega) (by omega)]
    have hfl:((c.waits.take k).filter fun p=> !Zbc c.tmo at_ p).length+((c.waits.take k).filter (Zbc c.tmo at_)).length≤k:=by
      have h1:=List.length_eq_countP_add_countP (p:=Zbc c.tmo at_) (l:=c.waits.take k)
      rw [List.countP_eq_length_filter,List.countP_eq_length_filter] at h1
      have h2:(c.waits.take k).length=k:=by rw [List.length_take];omega
      have h3:(List.filter (fun a=>decide ¬Zbc c.tmo at_ a=true) (c.waits.take k))=(c.waits.take k).filter fun p=> !Zbc c.tmo at_ p:=by
        congr 1;funext a;cases Zbc c.tmo at_ a<;>rfl
      rw [h3] at h1
      omega
    refine Zj (fun hge=>?_) (fun hlt=>?_)
    ·have hkp:Zbc c.tmo at_ p=false:=by unfold Zbc;exact decide_eq_false (by have:(c.tickK at_ k).tmo=c.tmo:=rfl;omega)
     refine ZmQ ⟨rb5,mb5,so5,st5,sb5,hR5⟩ hasc hpos (by
       show (c.told++List.map _ _).length≤_
       rw [List.length_append,List.length_map];omega) fun h26 T26 hC26 st26=>⟨⟨k+1,T26,by omega,by omega,?_,st15.trans st26⟩,by omega⟩
     have e:(c.tickK at_ k).fallI ((c.waits.take k).filter (Zbc c.tmo at_)).length p.1=c.tickK at_ (k+1):=by
       unfold Cl.fallI Cl.tickK
       dsimp only
       rw [htk,List.filter_append,List.filter_append,hdk,List.eraseIdx_append_of_length_le (Nat.le_refl _),Nat.sub_self]
       simp [hkp]
     rw [← e]
     exact hC26
    ·have hkp:Zbc c.tmo at_ p=true:=by unfold Zbc;exact decide_eq_true (by have:(c.tickK at_ k).tmo=c.tmo:=rfl;omega)
     refine ⟨⟨k+1,T15,by omega,by omega,⟨rb5,mb5,so5,st5,sb5,?_⟩,st15⟩,by omega⟩
     have e:c.tickK at_ k=c.tickK at_ (k+1):=by
       unfold Cl.tickK
       rw [htk,List.filter_append,List.filter_append,hdk]
       simp [hkp]
     rw [← e]
     exact hR5
   ·have hk2:k=c.waits.length:=by omega
    have e:c.tickK at_ k=c.tick at_:=by
      unfold Cl.tickK Cl.tick
      rw [hk2,List.take_length,List.drop_length,List.append_nil]
    rw [e] at hC15
    have hx:(fun t27 h28=>Zc t27 fun t29=>K t29 h28)=K:=rfl
    rw [hx]
    exact hgo h15 T15 hC15 ((st11.trans (Stp.ofExt e13)).trans st15)
theorem Stp.also {T T':Nat→Option Nat} {h h' h'':Zb} {S:Nat→Prop} (st:Stp T T' h h') (u:Upd S h' h'') (hS:∀ k,S k→h.size≤k):Stp T T' h h'' :=
  ⟨Upd.then st.upd u fun k hk h9=>by have:=hS k h9;omega,st.new⟩
theorem ZIZ {h:Zb} {t:TypeId} {K:Nat→Zb→Prop} (size:Nat) (hk:∀ h1,Own h1 h.size ⟨some ⟨h.size,0,none⟩,0,0⟩ size []→Ext h h1→h1.size=h.size+1→K h.size h1):newC h [] t K:=by
  refine ZdL (hk _ ?_ (Ext.push _ _) (by simp))
  exact Own.newC (h:=h) (cells:=[]) (t:=t) (size:=size) (n:=0) (by simp) (by decide)
theorem Zr0 {h:Zb} {K:Nat→Zb→Prop} (hk:∀ h1,ZjO h1 h.size []→Ext h h1→h1.size=h.size+1→K h.size h1):Zci h K :=
  hk _ ⟨#[],0,Zeg,MapKept.stamped_empty 0,rfl⟩ (Ext.push _ _) (by simp)
def Zfb (tmo least most:Int) (name:ByteArray):Cl:=⟨tmo,least,most,name,false,0,1,[],[],[],0,least,[],false⟩
def Ziv (tmo least most:Int) (name:ByteArray):Int :=
  if tmo<1 then 2 else if tmo>60000000 then 2 else if least<1 then 2 else if most<least then 2 else if most>3600000000 then 2 else if XA (0,5,0,0,name,0,()) then 0 else 10
theorem Zmm {h:Zb} {cb rb mb:Nat} {c:Cl} (hc:h[cb]?=some (.cells (clC rb mb ⟨none,0,0⟩ ⟨none,0,0⟩ c) 128 (0,0))) (hr:h[rb]?=some (.cells #[slV ⟨none,0,0⟩,.bool c.broken] 173 (0,0))) (hm:ZjO h mb c.waits)
    (h1:c.out=[]) (h2:c.told=[]) (h3:c.rb=[]) (n1:cb≠rb) (n2:cb≠mb) (n3:rb≠mb):∃ T,Client h T cb c∧∀ k,T k≠none→k=cb∨k=rb∨k=mb:=by
  refine ⟨fun k=>if k=cb then some 0 else if k=rb then some 1 else if k=mb then some 2 else none,⟨rb,mb,⟨none,0,0⟩,⟨none,0,0⟩,⟨none,0,0⟩,⟨hc,hr,hm,by rw [h1];exact Own.nil _ _ 1,by rw [h2];exact Own.nil _ _ 7,by rw [h3];exact Row.nil _ 1,by simp,?_,?_,fun k hk=>by simp [Sl.blk] at hk,fun k hk=>by simp [Sl.blk] at hk,fun k hk=>by simp [Sl.blk] at hk,fun k hk=>?_⟩⟩,fun k hk=>?_⟩
  ·show (if _ then _ else _)=_
   rw [if_neg (fun e=>n1 e.symm),if_pos rfl]
  ·show (if _ then _ else _)=_
   rw [if_neg (fun e=>n2 e.symm),if_neg (fun e=>n3 e.symm),if_pos rfl]
  ·have l1:=Xl hc
   have l2:=Xl hr
   have l3:=hm.lt
   by_cases q1:k=cb
   ·omega
   ·by_cases q2:k=rb
    ·omega
    ·by_cases q3:k=mb
     ·omega
     ·simp only [q1,q2,q3,if_false] at hk;exact absurd rfl hk
  ·by_cases q1:k=cb
   ·exact .inl q1
   ·by_cases q2:k=rb
    ·exact .inr (.inl q2)
    ·by_cases q3:k=mb
     ·exact .inr (.inr q3)
     ·simp only [q1,q2,q3,if_false] at hk;exact absurd rfl hk
theorem ZlL {h:Zb} {tmo least most:Int} {name:ByteArray} (hs:name.size<9223372036854775808) {K:Option Addr→Int→Zb→Prop}
    (hbad:Ziv tmo least most name≠0→∀ h',Ext h h'→K none (Ziv tmo least most name) h')
    (hgo:Ziv tmo least most name=0→∀ h' T cb,Client h' T cb (Zfb tmo least most name)→Ext h h'→(∀ k,T k≠none→h.size≤k)→K (some ⟨cb,0,none⟩) 0 h'):Zd5 (tmo,least,most,()) name K h:=by
  unfold Zd5 Zgh
  unfold Ziv at hbad hgo
  refine Za1 fun h1 c1 e1 z1=>Za (YS c1 rfl (Zj (fun q1=>?_) fun q1=>YS c1 rfl (Zj (fun q2=>?_) fun q2=>YS c1 rfl (Zj (fun q3=>?_) fun q3=>YS c1 rfl (YS c1 rfl (Zj (fun q4=>?_) fun q4=>YS c1 rfl (Zx (Zj (fun q5=>?_) fun q5=>?_))))))))
  ·rw [if_pos q1] at hbad;exact hbad (by decide) h1 e1
  ·rw [if_neg q1,if_pos q2] at hbad;exact hbad (by decide) h1 e1
  ·rw [if_neg q1,if_neg q2,if_pos q3] at hbad;exact hbad (by decide) h1 e1
  ·rw [if_neg q1,if_neg q2,if_neg q3,if_pos q4] at hbad;exact hbad (by decide) h1 e1
  ·rw [if_neg q1,if_neg q2,if_neg q3,if_neg q4,if_pos q5] at hbad;exact hbad (by decide) h1 e1
  ·rw [if_neg q1,if_neg q2,if_neg q3,if_neg q4,if_neg q5] at hbad hgo
   refine Zfl (r:=(0,5,0,0,name,0,())) hs fun h15 e15=>Zx ?_
   cases hr:XA (0,5,0,0,name,0,()) with
   | false =>
     rw [hr] at hbad
     exact ZF (Za (hbad (by decide) h15 (e1.trans e15)))
   | true =>
     rw [hr] at hgo
     have hgo:=hgo rfl
     have c15:=Xi c1 e15
     have x15:=e1.trans e15
     have z15:=e15.size
     refine Zl (YS c15 rfl (YS c15 rfl (YS c15 rfl (YS c15 rfl ⟨?_,?_⟩))))
     ·unfold ZbV Zey
      refine Za1 fun h23 c23 e23 z23=>⟨⟨(Zn (Xi c15 e23)).trans rfl,trivial⟩,⟨(Zn (Xi c15 e23)).trans rfl,(Zn (Xi c15 e23)).trans rfl,(Zn (Xi c15 e23)).trans rfl,trivial⟩,Zr0 fun h25 m25 e25 z25=>?_⟩
      have c25:=Xi (Xi c15 e23) e25
      refine ⟨⟨(Zn c25).trans rfl,trivial⟩,⟨(Zn c25).trans rfl,(Zn c25).trans rfl,(Zn c25).trans rfl,trivial⟩,Za1 fun h27 c27 e27 z27=>?_⟩
      have d27:=Xi c25 e27
      refine ⟨⟨(Zn d27).trans rfl,trivial⟩,⟨(Zn d27).trans rfl,(Zn d27).trans rfl,(Zn d27).trans rfl,trivial⟩,Za ?_⟩
      obtain ⟨T,hC,hT⟩:=Zmm (h:=h27) (cb:=h25.size) (rb:=h15.size) (mb:=h23.size) (c:=Zfb tmo least most name) c27 (Xi (Xi c23 e25) e27) (m25.congr (e27.old _ m25.lt)) rfl rfl rfl (by omega) (by omega) (by omega)
      have:=x15.size
      exact hgo h27 T _ hC (((x15.trans e23).trans e25).trans e27) fun k hk=>by have:=hT k hk;omega
     ·refine Zr0 fun h30 m30 e30 z30=>?_
      have c30:=Xi c15 e30
      refine ⟨⟨(Zn c30).trans rfl,trivial⟩,⟨(Zn c30).trans rfl,(Zn c30).trans rfl,(Zn c30).trans rfl,trivial⟩,?_⟩
      unfold ZbV Zey
      refine Za1 fun h32 c32 e32 z32=>?_
      have d32:=Xi c30 e32
      refine ⟨⟨(Zn d32).trans rfl,trivial⟩,⟨(Zn d32).trans rfl,(Zn d32).trans rfl,(Zn d32).trans rfl,trivial⟩,Za1 fun h34 c34 e34 z34=>?_⟩
      have d34:=Xi d32 e34
      refine ⟨⟨(Zn d34).trans rfl,trivial⟩,⟨(Zn d34).trans rfl,(Zn d34).trans rfl,(Zn d34).trans rfl,trivial⟩,Za ?_⟩
      obtain ⟨T,hC,hT⟩:=Zmm (h:=h34) (cb:=h32.size) (rb:=h30.size) (mb:=h15.size) (c:=Zfb tmo least most name) c34 (Xi c32 e34) (m30.congr ((e32.trans e34).old _ m30.lt)) rfl rfl rfl (by omega) (by omega) (by omega)
      have:=x15.size
      exact hgo h34 T _ hC (((x15.trans e30).trans e32).trans e34) fun k hk=>by have:=hT k hk;omega
theorem Zxg (c:Option Addr) (a:Int) (K:Int→Zb→Prop) (h:Zb):Yj c a K h=Zu Zk Zq XJ c a K h:=rfl
theorem Zxi (c:Option Addr) (a:Int) (t:Option Addr × Option Addr × Option Addr × Unit) (K:Int→Zb→Prop) (h:Zb):Yl c a t K h=Zu Zk Zq (fun K h=>XL t.1 t.2.1 t.2.2.1 K h) c a K h:=rfl
theorem Zp7 (c:Option Addr) (a:Int) (t:Option Addr × Unit) (K:Int→Zb→Prop) (h:Zb):Yb c a t K h=Zu Zk Zq (fun K h=>Y8 t.1 K h) c a K h:=rfl
def Cl.atS (c:Cl) (at_:Int):Cl:=if c.atE at_=0 then c.tick at_ else c
theorem Zm7 {h:Zb} {T:Nat→Option Nat} {cb:Nat} {c:Cl} (hC:Client h T cb c) (hW:WOK c) {at_:Int} {K:Int→Zb→Prop} (hk:∀ h' T',Client h' T' cb (c.atS at_)→Stp T T' h h'→K (c.atE at_) h'):Y3 (some ⟨cb,0,none⟩) at_ K h:=by
  unfold Y3 ZcF
  refine Za ?_
  rw [Zxg]
  refine ZdD hC hW (fun he=>Za ?_) fun he h' T' hC' st'=>?_
  ·refine hk h T ?_ (Stp.refl _ _)
   unfold Cl.atS
   rw [if_neg he]
   exact hC
  ·rw [he] at hk
   unfold XJ ZbL
   refine Za (Za (Za (hk h' T' ?_ st')))
   unfold Cl.atS
   rw [if_pos he]
   exact hC'
def Cl.dialF (c:Cl) (at_:Int):Bool:=if c.atE at_=0 then !c.up&&decide (at_≥c.dial) else false
theorem ZjQ {h:Zb} {T:Nat→Option Nat} {cb:Nat} {c:Cl} (hC:Client h T cb c) (hW:WOK c) {at_:Int} {K:Bool→Int→Zb→Prop} (hk:∀ h' T',Client h' T' cb (c.atS at_)→Stp T T' h h'→K (c.dialF at_) (c.atE at_) h'):Zai (some ⟨cb,0,none⟩) at_ K h:=by
  unfold Zai ZcH
  refine Za1 fun h1 c1 e1 z1=>Za1 fun h3 c3 e3 z3=>Za1 fun h5 c5 e5 z5=>Za (ZgU (Xi (Xi c1 e3) e5) rfl (YS (Xi c3 e5) rfl ?_))
  have x5:=(e1.trans e3).trans e5
  have d1:=Xi (Xi c1 e3) e5
  have d3:=Xi c3 e5
  have n1:T h.size=none:=Za3 hC.lt (Nat.le_refl _)
  have n3:T h1.size=none:=Za3 hC.lt (by omega)
  have n5:T h3.size=none:=Za3 hC.lt (by omega)
  have fin:∀ {h8:Zb} {T8:Nat→Option Nat} {v:Bool},Client h8 T8 cb (c.atS at_)→Stp T T8 h h8→T8 h3.size=none→h8[h3.size]?=some (.cells #[.bool v] 4 (0,0))→v=c.dialF at_ →
      (Zc (c.atE at_) fun e9=>ldB h8 h3.size 0 fun t10=>Fw.st h8 h3.size 0 (Value.bool t10) fun h11=>Zc e9 fun e12=>ldB h11 h3.size 0 fun t13=>K t13 e12 h11):=fun {h8 T8 v} hC8 st8 n8 c8 hv=>by
    refine Za (Znl c8 rfl (Zig c8 (show 0<1 by decide) rfl fun h11 c11 u11 z11=>Za (Znl c11 rfl ?_)))
    rw [hv]
    exact hk h11 T8 (hC8.upd u11 fun k _ h9=>by subst h9;exact n8) (st8.also u11 fun k h9=>by omega)
  rw [Zxi]
  refine ZdD (hC.ext x5) hW (fun he=>?_) fun he h' T' hC' st'=>?_
  ·refine fin (v:=false) ?_ (Stp.ofExt x5) n5 c5 (by unfold Cl.dialF;rw [if_neg he])
   unfold Cl.atS
   rw [if_neg he]
   exact hC.ext x5
  ·have f1:=st'.keep n1 d1
   have f3:=st'.keep n3 d3
   have f5:=st'.keep n5 c5
   have m5:=st'.none_ n5 (Xl c5)
   have hS:c.atS at_=c.tick at_:=by unfold Cl.atS;rw [if_pos he]
   have hC2:Client h' T' cb (c.atS at_):=by rw [hS];exact hC'
   have stT:=(Stp.ofExt (T:=T) x5).trans st'
   obtain ⟨rb,mb,so,st,sb,hR⟩:=hC'
   have fin2:∀ (v:Bool) (h16:Zb),h16[h3.size]?=some (.cells #[.bool v] 4 (0,0))→Upd (· = h3.size) h' h16→v=c.dialF at_→(Zc (0:Int) fun t17=>Zc t17 fun e9=>ldB h16 h3.size 0 fun t10=>Fw.st h16 h3.size 0 (Value.bool t10) fun h11=>Zc e9 fun e12=>ldB h11 h3.size 0 fun t13=>K t13 e12 h11):=fun v h16 c16 u16 hv=>by
     rw [he] at fin
     exact fin (hC2.upd u16 fun k _ h9=>by subst h9;exact m5) (stT.also u16 fun k h9=>by omega) m5 c16 hv
   unfold XL ZbN
   refine Za (Zh (ZgU f1 rfl (Zh (Znl hR.cells rfl ?_))))
   have hup:(c.tick at_).up=c.up:=rfl
   have hdl:(c.tick at_).dial=c.dial:=rfl
   rw [hup]
   cases hu:c.up with
   | false=>exact ZF (Zh (YS f3 rfl (Zh (ZgU f1 rfl (Zh (YS hR.cells rfl (Zh (Zig f5 (show 0<1 by decide) rfl fun h16 c16 u16 z16=>fin2 _ h16 c16 u16 (by unfold Cl.dialF;rw [if_pos he,hu];rfl)))))))))
   | true=>exact Zl (Zh (Zig f5 (show 0<1 by decide) rfl fun h16 c16 u16 z16=>fin2 _ h16 c16 u16 (by unfold Cl.dialF;rw [if_pos he,hu];rfl)))
def Cl.failed (c:Cl):Cl:={ c with dial:=c.last+c.backoff,backoff:=min (2*c.backoff) c.most }
structure NOK (c:Cl):Prop where
  tmo:1≤c.tmo∧c.tmo≤60000000
  least:1≤c.least
  back:c.least≤c.backoff∧c.backoff≤c.most
  most:c.most≤3600000000
  name:c.name.size≤64
theorem ZnI (x y:Int):Zjf x y=min x y:=by unfold Zjf;omega
theorem Zjx {h:Zb} {T:Nat→Option Nat} {cb:Nat} {c:Cl} (hC:Client h T cb c) (hW:0≤c.last∧c.last≤1152921504606846976) (hN:NOK c) {K:Zb→Prop} (hk:∀ h',Client h' T cb c.failed→Stp T T h h'→K h'):YG (some ⟨cb,0,none⟩) K h:=by
  obtain ⟨rb,mb,so,st,sb,hR⟩:=hC
  unfold YG ZbK
  have hb:=hN.back
  have hl:=hN.least
  have hm:=hN.most
  refine Zh (Zh (YS hR.cells rfl (YS hR.cells rfl (Zh (hR.setF { c with dial:=c.last+c.backoff } (by decide) rfl ?_ rfl rfl rfl rfl rfl fun h6 hR6 st6 z6=>Zh (Zh (YS hR6.cells rfl (YS hR6.cells rfl (Zh (hR6.setF c.failed (by decide) rfl ?_ rfl rfl rfl rfl rfl fun h15 hR15 st15 z15=>hk h15 ⟨rb,mb,so,st,sb,hR15⟩ (st6.trans st15)))))))))))
  ·rw [ZR (by omega) (by omega)]
   rfl
  ·dsimp only
   rw [ZR (n:=2*c.backoff) (by omega) (by omega),ZnI]
   rfl
def Cl.refE (c:Cl) (at_:Int):Int:=if c.atE at_=0 then (if c.up then 52 else 0) else c.atE at_
def Cl.refS (c:Cl) (at_:Int):Cl:=if c.atE at_=0 then (if c.up then c.tick at_ else (c.tick at_).failed) else c
theorem ZlF {c:Cl} {at_:Int} (h:c.atE at_=0):0≤at_∧at_≤1152921504606846976∧c.last≤at_:=by
  unfold Cl.atE at h
  split at h
  ·cases h
  ·split at h
   ·cases h
   ·split at h
    ·cases h
    ·omega
theorem NOK.tick {c:Cl} (hN:NOK c) (at_:Int):NOK (c.tick at_):=⟨hN.tmo,hN.least,hN.back,hN.most,hN.name⟩
theorem NOK.failed {c:Cl} (hN:NOK c):NOK c.failed:=by
  have:=hN.back
  have:=hN.least
  refine ⟨hN.tmo,hN.least,?_,hN.most,hN.name⟩
  show c.least≤min (2*c.backoff) c.most∧min (2*c.backoff) c.most≤c.most
  omega
theorem NOK.noF {c c':Cl} (hN:NOK c) (h1:c'.tmo=c.tmo) (h2:c'.least=c.least) (h3:c'.most=c.most) (h4:c'.backoff=c.backoff) (h5:c'.name=c.name) (_h6:c'.last=c.last):NOK c' :=
  ⟨by rw [h1];exact hN.tmo,by rw [h2];exact hN.least,by rw [h2,h3,h4];exact hN.back,by rw [h3];exact hN.most,by rw [h5];exact hN.name⟩
theorem Znc {h:Zb} {T:Nat→Option Nat} {cb:Nat} {c:Cl} (hC:Client h T cb c) (hW:WOK c) (hN:NOK c) {at_:Int} {K:Int→Zb→Prop} (hk:∀ h' T',Client h' T' cb (c.refS at_)→Stp T T' h h'→K (c.refE at_) h'):Xr (some ⟨cb,0,none⟩) at_ K h:=by
  unfold Xr Zbv
  refine Za1 fun h1 c1 e1 z1=>Za (ZgU c1 rfl ?_)
  have n1:T h.size=none:=Za3 hC.lt (Nat.le_refl _)
  rw [Zp7]
  refine ZdD (hC.ext e1) hW (fun he=>Za ?_) fun he h' T' hC' st'=>?_
  ·have:=hk h1 T (by unfold Cl.refS;rw [if_neg he];exact hC.ext e1) (Stp.ofExt e1)
   unfold Cl.refE at this
   rw [if_neg he] at this
   exact this
  ·have f1:=st'.keep n1 c1
   have stT:=(Stp.ofExt (T:=T) e1).trans st'
   have hb:=ZlF he
   have hC2:=hC'
   obtain ⟨rb,mb,so,st,sb,hR⟩:=hC'
   have m1:=st'.none_ n1 (Xl c1)
   unfold Cl.refE Cl.refS at hk
   rw [if_pos he,if_pos he] at hk
   unfold Y8 ZaZ
   refine Za (Zh (ZgU f1 rfl (Zh (Znl hR.cells rfl ?_))))
   have hup:(c.tick at_).up=c.up:=rfl
   rw [hup]
   cases hu:c.up with
   | true =>
     rw [hu] at hk
     exact ZF (Za (Za (hk h' T' hC2 stT)))
   | false =>
     rw [hu] at hk
     exact Zl (Zh (ZgU f1 rfl (Zjx hC2 ⟨hb.1,hb.2.1⟩ (hN.tick at_) fun h15 hC15 st15=>Za (Za (hk h15 T' hC15 (stT.trans st15))))))
theorem ZcV {h:Zb} {T:Nat→Option Nat} {cb:Nat} {c:Cl} (hC:Client h T cb c) {K:Bool→Zb→Prop} (hk:K c.up h):ZP (some ⟨cb,0,none⟩) K h:=by
  obtain ⟨rb,mb,so,st,sb,hR⟩:=hC
  exact ZF (Zh (Znl hR.cells rfl (Zx hk)))
theorem Zm6 {h:Zb} {T:Nat→Option Nat} {cb:Nat} {c:Cl} (hC:Client h T cb c) {K:Sl→Zb→Prop}
    (hk:∀ s h' T',Own h' 0 s 7 (c.told.flatMap tC)→(∀ k,s.blk=some k→T k=some 4)→Client h' T' cb { c with told:=[]}→Stp T T' h h'→K s h'):Zag (some ⟨cb,0,none⟩) K h:=by
  obtain ⟨rb,mb,so,st,sb,hR⟩:=hC
  refine Zl (Zh (Zjk (s:=st) hR.cells rfl (Zh (hR.setTold (x:=⟨none,0,0⟩) (l:=[]) (Own.nil _ _ 7) (fun k hk=>by simp [Sl.blk] at hk) (Upd.refl _ _) fun h3 T3 hR3 st3 u3=>?_))))
  refine hk st h3 T3 (hR.told.congr fun k hk hl _=>u3.old k hl fun h9=>?_) hR.tst ⟨rb,mb,so,⟨none,0,0⟩,sb,hR3⟩ st3
  have:=hR.tst k hk
  rw [h9,hR.tcb] at this
  cases this
theorem Zvz (l:List UInt8):(l.map bv).all Zv=true:=by simp [List.all_map,Function.comp_def,bv,Zv]
theorem ZlI (r:Rq):(Zoh [r]).length≤1024:=by
  unfold Zoh
  split
  ·rename_i h
   have hr:XA r=true:=by simpa [Zm2] using h
   have:=Zem hr
   rw [show List.map Ze7 [r]=[Ze7 r] from rfl,Zn0]
   simp only [List.length_append,Zcg,Zle]
   show 4+(34+_+0)≤_
   omega
  ·exact Nat.zero_le _
theorem Zzd {h:Zb} {b:Nat} {e:TypeId} {r:Rq} (hs:r.2.2.2.2.1.size<9223372036854775808) (c:h[b]?=some (.cells (rqC r).toArray e (0,0))):Zm9 h ⟨some ⟨b,0,none⟩,1,1⟩ [r]:=by
  refine ⟨rfl,fun x hx=>?_,fun i x hx=>?_⟩
  ·have:x=r:=List.mem_singleton.1 hx
   subst this
   exact hs
  ·cases i with
   | zero =>
     simp only [List.getElem?_cons_zero,Option.some.injEq] at hx
     subst hx
     exact ⟨b,0,rfl,ZaD c fun i v hi=>by simpa using hi⟩
   | succ n=>simp at hx
theorem Zkl {h:Zb} {T:Nat→Option Nat} {cb:Nat} {c:Cl} (hC:Client h T cb c) {r:Rq} (hs:r.2.2.2.2.1.size<9223372036854775808) (hl:c.out.length≤1099511627776) {K:Zb→Prop}
    (hk:∀ h' T',Client h' T' cb { c with out:=c.out++Zoh [r]}→Stp T T' h h'→K h'):YR (some ⟨cb,0,none⟩) r K h:=by
  unfold YR Zb9
  obtain ⟨r1,r2,r3,r4,r5,r6,u⟩:=r
  refine Za1 fun h1 c1 e1 z1=>YS c1 rfl (YS c1 rfl (YS c1 rfl (YS c1 rfl (Znk c1 rfl (YS c1 rfl (Za1 fun h8 c8 e8 z8=>?_))))))
  refine ZuK (rs:=[(r1,r2,r3,r4,r5,r6,())]) (Zzd hs c8) (by show 1≤_;decide) fun t9 h11 ho11 e11=>Za (Zh ?_)
  have x11:=(e1.trans e8).trans e11
  obtain ⟨rb,mb,so,st,sb,hR⟩:=hC
  have hR11:=hR.ext x11
  have hol:so.len=c.out.length:=Bytes.length hR11.out.row
  have htl:t9.len=(Zoh [(r1,r2,r3,r4,r5,r6,())]).length:=Bytes.length ho11.row
  have hal:=ZlI (r1,r2,r3,r4,r5,r6,())
  refine Zjk (s:=so) hR11.cells rfl (ho11.row.rd (Own.app hR11.out (by simp [htl]) (Zvz _) rfl (by omega) (by omega) (Nat.zero_le _) fun t14 h15 ho15 hl15 hu15 hblk=>Zh ?_))
  rw [← List.map_append] at ho15
  refine hR11.setOut ho15 (fun k hk=>?_) (hu15.mono fun k _ h8=>hR11.tso k h8) fun h18 T18 hR18 st18 _=>hk h18 T18 ⟨rb,mb,t14,st,sb,hR18⟩ ((Stp.ofExt x11).trans st18)
  rcases hblk with h9 | h9
  ·exact .inl (hR11.tso k (h9▸hk))
  ·rw [h9] at hk
   cases hk
   exact .inr (Nat.le_refl _)
theorem ZEK (c:Option Addr) (a:Int) (t:Option Addr × Unit) (K:Int→Zb→Prop) (h:Zb):Ys c a t K h=Zu Zk Zq (fun K h=>Zaf t.1 K h) c a K h:=rfl
theorem ZzO (c:Option Addr) (a:Int) (t:Option Addr × Option Addr × Option Addr × Option Addr × Option Addr × Unit) (K:Int→Zb→Prop) (h:Zb):Yq c a t K h=Zu Zk Zq (fun K h=>X0 t.1 t.2.1 t.2.2.1 t.2.2.2.1 t.2.2.2.2.1 K h) c a K h:=rfl
def Zil (name:ByteArray):Rq:=(0,5,0,0,name,0,())
def Cl.upE (c:Cl) (at_:Int):Int:=if c.atE at_=0 then (if c.up then 52 else 0) else c.atE at_
def Cl.upS (c:Cl) (at_:Int):Cl:=if c.atE at_=0 then (if c.up then c.tick at_ else { c.tick at_ with up:=true,backoff:=c.least,out:=c.out++Zoh [Zil c.name]}) else c
theorem Zxn {h:Zb} {T:Nat→Option Nat} {cb:Nat} {c:Cl} (hC:Client h T cb c) (hW:WOK c) (hN:NOK c) (hl:c.out.length≤1099511627776) {at_:Int} {K:Int→Zb→Prop} (hk:∀ h' T',Client h' T' cb (c.upS at_)→Stp T T' h h'→K (c.upE at_) h'):ZaR (some ⟨cb,0,none⟩) at_ K h:=by
  unfold ZaR ZdC
  refine Za1 fun h1 c1 e1 z1=>Za (ZgU c1 rfl ?_)
  have n1:T h.size=none:=Za3 hC.lt (Nat.le_refl _)
  rw [ZEK]
  refine ZdD (hC.ext e1) hW (fun he=>Za ?_) fun he h' T' hC' st'=>?_
  ·have:=hk h1 T (by unfold Cl.upS;rw [if_neg he];exact hC.ext e1) (Stp.ofExt e1)
   unfold Cl.upE at this
   rw [if_neg he] at this
   exact this
  ·have f1:=st'.keep n1 c1
   have stT:=(Stp.ofExt (T:=T) e1).trans st'
   have hC2:=hC'
   obtain ⟨rb,mb,so,st,sb,hR⟩:=hC'
   have m1:=st'.none_ n1 (Xl c1)
   unfold Cl.upE Cl.upS at hk
   rw [if_pos he,if_pos he] at hk
   unfold Zaf ZcD
   refine Za (Zh (ZgU f1 rfl (Zh (Znl hR.cells rfl ?_))))
   have hup:(c.tick at_).up=c.up:=rfl
   rw [hup]
   cases hu:c.up with
   | true =>
     rw [hu] at hk
     exact ZF (Za (Za (hk h' T' hC2 stT)))
   | false =>
     rw [hu] at hk
     refine Zl (Zh (ZgU f1 rfl (Zh (ZgU f1 rfl (Zh (ZgU f1 rfl (Zh (YS hR.cells rfl (Zh (hR.setF { c.tick at_ with up:=true } (by decide) rfl rfl rfl rfl rfl rfl rfl fun h20 hR20 st20 z20=>?_))))))))))
     have f20:=st20.keep m1 f1
     refine ⟨⟨(Zn f20).trans rfl,trivial⟩,⟨(Zn f20).trans rfl,trivial⟩,Zh (hR20.setF { c.tick at_ with up:=true,backoff:=c.least } (by decide) rfl rfl rfl rfl rfl rfl rfl fun h23 hR23 st23 z23=>?_)⟩
     have m20:=st20.none_ m1 (Xl f1)
     have f23:=st23.keep m1 f20
     refine Zh (ZgU f23 rfl (Zh (ZgU f23 rfl (Zh (Znk hR23.cells rfl (Zkl (r:=Zil c.name) ⟨rb,mb,so,st,sb,hR23⟩ (by have:=hN.name;show c.name.size<_;omega) hl fun h33 T33 hC33 st33=>?_))))))
     have f33:=st33.keep m1 f23
     obtain ⟨rb3,mb3,so3,st3,sb3,hR33⟩:=hC33
     exact ⟨⟨(Zn hR33.cells).trans rfl,trivial⟩,⟨(Zn f33).trans rfl,trivial⟩,Za (Za (hk h33 T33 ⟨rb3,mb3,so3,st3,sb3,hR33⟩ (((stT.trans st20).trans st23).trans st33)))⟩
def ZfT (r:Rq) (n:Int):Rq:=(n,r.2)
def Cl.askR (c:Cl) (at_:Int) (r:Rq):(Int × Bool × Int) × Cl :=
  if c.atE at_=0 then
    (if XA (ZfT r 0)=true∧r.2.1≠5 then
      (if c.up=true∧(c.tick at_).waits.length<256 then
        ((c.next,false,0),{ c.tick at_ with next:=c.next+1,waits:=(c.tick at_).waits++[(c.next,at_)],out:=c.out++Zoh [ZfT r c.next]})
      else ((0,true,0),c.tick at_))
    else ((0,false,6),c.tick at_))
  else ((0,false,c.atE at_),c)
theorem WOK.tick {c:Cl} (hW:WOK c) {at_:Int} (he:c.atE at_=0):WOK (c.tick at_):=by
  have hz:=ZlF he
  refine ⟨Zfk hW.asc _,fun p hp=>hW.ids p (List.mem_filter.1 hp).1,fun p hp=>?_,⟨hz.1,hz.2.1⟩,hW.next,?_⟩
  ·have:=hW.ats p (List.mem_filter.1 hp).1
   show 0≤p.2∧p.2≤at_
   omega
  ·have:=hW.sum
   show (c.told++List.map _ _).length+(List.filter _ c.waits).length≤_
   rw [List.length_append,List.length_map]
   have h1:=List.length_eq_countP_add_countP (p:=Zbc c.tmo at_) (l:=c.waits)
   rw [List.countP_eq_length_filter,List.countP_eq_length_filter] at h1
   have h3:(List.filter (fun a=>decide ¬Zbc c.tmo at_ a=true) c.waits)=c.waits.filter fun p=> !Zbc c.tmo at_ p:=by
     congr 1;funext a;cases Zbc c.tmo at_ a<;>rfl
   rw [h3] at h1
   omega
theorem ZuJ {h:Zb} {T:Nat→Option Nat} {cb:Nat} {c:Cl} (hC:Client h T cb c) (hW:WOK c) (hnx:c.next<4611686018427387904) (hl:c.out.length≤1099511627776) {at_:Int} {r:Rq} (hs:r.2.2.2.2.1.size<9223372036854775808) {K:Int→Bool→Int→Zb→Prop}
    (hk:∀ h' T',Client h' T' cb (c.askR at_ r).2→Stp T T' h h'→K (c.askR at_ r).1.1 (c.askR at_ r).1.2.1 (c.askR at_ r).1.2.2 h'):ZaB (some ⟨cb,0,none⟩) at_ r K h:=by
  unfold ZaB Zde
  refine Za1 fun h1 c1 e1 z1=>Za1 fun h3 c3 e3 z3=>Za1 fun h5 c5 e5 z5=>Za1 fun h7 c7 e7 z7=>Za1 fun h9 c9 e9 z9=>Za ?_
  have d1:=Xi (Xi (Xi (Xi c1 e3) e5) e7) e9
  have d3:=Xi (Xi (Xi c3 e5) e7) e9
  have d5:=Xi (Xi c5 e7) e9
  have d7:=Xi c7 e9
  have x9:=(((e1.trans e3).trans e5).trans e7).trans e9
  refine ZgU d1 rfl (YS d3 rfl ?_)
  have n1:T h.size=none:=Za3 hC.lt (Nat.le_refl _)
  have n3:T h1.size=none:=Za3 hC.lt (by omega)
  have n5:T h3.size=none:=Za3 hC.lt (by omega)
  have n7:T h5.size=none:=Za3 hC.lt (by omega)
  have n9:T h7.size=none:=Za3 hC.lt (by omega)
  have fin:∀ {h12:Zb} {T12:Nat→Option Nat} {n:Int} {f:Bool} {e:Int} {c':Cl},Client h12 T12 cb c'→Stp T T12 h h12→T12 h5.size=none→T12 h7.size=none→h12[h5.size]?=some (.cells #[iv n] 3 (0,0))→h12[h7.size]?=some (.cells #[.bool f] 4 (0,0))→c.askR at_ r=((n,f,e),c') →
      (Zc e fun e13=>ldI h12 h5.size 0 .i64 fun t14=>ldB h12 h7.size 0 fun t15=>Fw.st h12 h5.size 0 (Value.int .i64 t14) fun h16=>ZH (Zi h16 [(h7.size,0,Value.bool t15)]) <| Fw.st h16 h7.size 0 (Value.bool t15) fun h17=>Zc e13 fun e18=>ldI h17 h5.size 0 .i64 fun t19=>ldB h17 h7.size 0 fun t20=>K t19 t20 e18 h17):=by
    intro h12 T12 n f e c' hC12 st12 m6 m8 q6 q8 ha
    rw [ha] at hk
    refine Za (YS q6 rfl (Znl q8 rfl (Zig q6 (show 0<1 by decide) rfl fun h16 r16 u16 z16=>?_)))
    have q8':=Zbn q8 u16 (by omega)
    refine ⟨⟨(Zn q8').trans rfl,trivial⟩,Zig q8' (show 0<1 by decide) rfl fun h17 r17 u17 z17=>Za ?_⟩
    have q6':=Zbn r16 u17 (by omega)
    refine YS q6' rfl (Znl r17 rfl ?_)
    refine hk h17 T12 ((hC12.upd u16 fun k _ hk=>by subst hk;exact m6).upd u17 fun k _ hk=>by subst hk;exact m8) ((st12.also u16 fun k hk=>by omega).also u17 fun k hk=>by omega)
  rw [ZzO]
  refine ZdD (hC.ext x9) hW (fun he=>?_) fun he h' T' hC' st'=>?_
  ·exact fin (hC.ext x9) (Stp.ofExt x9) n7 n9 d7 c9 (by unfold Cl.askR;rw [if_neg he])
  ·have stT:=(Stp.ofExt (T:=T) x9).trans st'
   have f1:=st'.keep n1 d1
   have f3:=st'.keep n3 d3
   have f5:=st'.keep n5 d5
   have f7:=st'.keep n7 d7
   have f9:=st'.keep n9 c9
   have m1:=st'.none_ n1 (Xl d1)
   have m3:=st'.none_ n3 (Xl d3)
   have m5:=st'.none_ n5 (Xl d5)
   have m7:=st'.none_ n7 (Xl d7)
   have m9:=st'.none_ n9 (Xl c9)
   have hWt:=hW.tick he
   unfold X0 Zcb
   obtain ⟨r1,r2,r3,r4,r5,r6,u⟩:=r
   refine Za (Zh (Zig f5 (show 0<6 by decide) rfl fun h11 q5 u11 z11=>Zh (YS q5 rfl (YS q5 rfl (YS q5 rfl (YS q5 rfl (Znk q5 rfl (YS q5 rfl ?_))))))))
   have hC11:=hC'.upd u11 fun k _ hk=>by subst hk;exact m5
   have st11:=stT.also u11 fun k hk=>by omega
   have g1:=Zbn f1 u11 (by omega)
   have g3:=Zbn f3 u11 (by omega)
   have g7:=Zbn f7 u11 (by omega)
   have g9:=Zbn f9 u11 (by omega)
   refine Zfl (r:=(0,r2,r3,r4,r5,r6,())) hs fun h12 e12=>?_
   have hC12:=hC11.ext e12
   have st12:=st11.trans (Stp.ofExt e12)
   have k1:=Xi g1 e12
   have k3:=Xi g3 e12
   have k5:=Xi q5 e12
   have k7:=Xi g7 e12
   have k9:=Xi g9 e12
   cases hr:XA (0,r2,r3,r4,r5,r6,()) with
   | false=>exact ZF (Za (Za (fin hC12 st12 m7 m9 k7 k9 (by unfold Cl.askR ZfT;rw [if_pos he,if_neg fun h9=>by rw [hr] at h9;exact absurd h9.1 (by decide)]))))
   | true =>
     refine Zl (Zh (YS k5 rfl (Zx ⟨fun h5=>?_,fun h5=>?_⟩)))
     ·have h5:r2=5:=by simpa using h5
      exact Za (Za (fin hC12 st12 m7 m9 k7 k9 (by unfold Cl.askR ZfT;rw [if_pos he,if_neg fun h9=>h9.2 h5])))
     have h5:r2≠5:=by simpa using h5
     have hcond:XA (ZfT (r1,r2,r3,r4,r5,r6,u) 0)=true∧(r1,r2,r3,r4,r5,r6,u).2.1≠5:=⟨hr,h5⟩
     have hC12':=hC12
     obtain ⟨rb,mb,so,st,sb,hR⟩:=hC12'
     have hup:(c.tick at_).up=c.up:=rfl
     refine Zh (ZgU k1 rfl (Zh (Znl hR.cells rfl ?_)))
     rw [hup]
     cases hu:c.up with
     | false =>
       refine ZF (Zh (Zig k9 (show 0<1 by decide) rfl fun h26 q9 u26 z26=>Za (Za ?_)))
       exact fin (hC12.upd u26 fun k _ hk=>by subst hk;exact m9) (st12.also u26 fun k hk=>by omega) m7 m9 (Zbn k7 u26 (by omega)) q9 (by unfold Cl.askR;rw [if_pos he,if_pos hcond,if_neg fun h9=>by rw [hu] at h9;exact absurd h9.1 (by decide)])
     | true =>
       refine Zl (Zh (ZgU k1 rfl (Zh (ZwV hR.cells rfl (hR.map.len_ (Zx (Zj (fun hge=>?_) fun hlt=>?_)))))))
       ·refine Zh (Zig k9 (show 0<1 by decide) rfl fun h26 q9 u26 z26=>Za (Za ?_))
        exact fin (hC12.upd u26 fun k _ hk=>by subst hk;exact m9) (st12.also u26 fun k hk=>by omega) m7 m9 (Zbn k7 u26 (by omega)) q9 (by unfold Cl.askR;rw [if_pos he,if_pos hcond,if_neg fun h9=>by have:=h9.2;omega])
       ·have hlt:(c.tick at_).waits.length<256:=by omega
        refine Zh (ZgU k1 rfl (Zh (YS hR.cells rfl (Zh (ZgU k1 rfl (Zh (YS hR.cells rfl (Zh (Zig k7 (show 0<1 by decide) rfl fun h54 p7 u54 z54=>?_)))))))))
        have hR54:=hR.upd u54 fun k _ hk=>by subst hk;exact m7
        have p1:=Zbn k1 u54 (by omega)
        have p3:=Zbn k3 u54 (by omega)
        have p5:=Zbn k5 u54 (by omega)
        have p9:=Zbn k9 u54 (by omega)
        refine ⟨⟨(Zn hR54.cells).trans rfl,trivial⟩,⟨(Zn p1).trans rfl,trivial⟩,Zh (Zig p5 (show 0<6 by decide) rfl fun h57 o5 u57 z57=>?_)⟩
        have hR57:=hR54.upd u57 fun k _ hk=>by subst hk;exact m5
        have o1:=Zbn p1 u57 (by omega)
        have o3:=Zbn p3 u57 (by omega)
        have o7:=Zbn p7 u57 (by omega)
        have o9:=Zbn p9 u57 (by omega)
        have hwr:IntKind.wrap .i64 ((c.tick at_).next+1)=c.next+1:=ZR (by have:=hW.next;show -9223372036854775808≤c.next+1;omega) (by show c.next+1≤_;omega)
        refine Zh (ZgU o1 rfl (Zh (YS hR57.cells rfl (Zh ?_))))
        rw [hwr]
        refine hR57.setF { c.tick at_ with next:=c.next+1 } (by decide) rfl rfl rfl rfl rfl rfl rfl fun h66 hR66 st66 z66=>?_
        have w1:=st66.keep m1 o1
        have w3:=st66.keep m3 o3
        have w5:=st66.keep m5 o5
        have w7:=st66.keep m7 o7
        have w9:=st66.keep m9 o9
        refine Zh (ZgU w1 rfl (Zh (ZwV hR66.cells rfl (Zh (YS w7 rfl (Zh (YS w3 rfl (hR66.map.put (fun p hp=>?_) fun h79 mm u79 z79=>?_))))))))
        ·have:=(hWt.ids p hp).2
         have hn:(c.tick at_).next=c.next:=rfl
         omega
        obtain ⟨hR79,st79⟩:=hR66.setMap mm u79 z79
        have y1:=st79.keep m1 w1
        have y5:=st79.keep m5 w5
        have y7:=st79.keep m7 w7
        have y9:=st79.keep m9 w9
        refine Zh (ZgU y1 rfl (Zh (YS y5 rfl (YS y5 rfl (YS y5 rfl (YS y5 rfl (Znk y5 rfl (YS y5 rfl ?_))))))))
        refine Zkl (r:=(c.next,r2,r3,r4,r5,r6,())) ⟨rb,mb,so,st,sb,hR79⟩ hs hl fun h91 T91 hC91 st91=>Za (Za ?_)
        have all:=(((((st12.also u54 fun k hk=>by omega).also u57 fun k hk=>by omega).trans st66).trans st79).trans st91)
        refine fin hC91 all (st91.none_ m7 (Xl y7)) (st91.none_ m9 (Xl y9)) (st91.keep m7 y7) (st91.keep m9 y9) ?_
        unfold Cl.askR
        rw [if_pos he,if_pos hcond,if_pos ⟨hu,hlt⟩]
        rfl
theorem ClR.setRd {h h1:Zb} {T:Nat→Option Nat} {cb rb mb:Nat} {so st sb:Sl} {c:Cl} (hR:ClR h T cb rb mb so st sb c) {x:Sl} {l:List UInt8} {br:Bool} (hc:h1[rb]?=some (.cells #[slV x,.bool br] 173 (0,0))) (hx:Bytes h1 x l)
    (hnew:∀ k,x.blk=some k→T k=some 5∨h.size≤k) (hlt:∀ k,x.blk=some k→k<h1.size) (hu:Upd (· = rb) h h1):∃ T',ClR h1 T' cb rb mb so st x { c with rb:=l,broken:=br }∧Stp T T' h h1∧∀ k,T' k≠none→T k≠none∨x.blk=some k:=by
  have nrb:∀ {k t},T k=some t→t≠1→k≠rb:=fun {k t} h8 h9 h7=>by subst h7;rw [hR.trb] at h8;cases h8;exact h9 rfl
  have old:∀ {k t},T k=some t→t≠1→h1[k]?=h[k]?:=fun {k t} h8 h9=>hu.old k (hR.lt k (by rw [h8];simp)) (nrb h8 h9)
  have tag:∀ {k t},T k=some t→t≠5→(if x.blk=some k then some 5 else T k)=some t:=fun {k t} h8 h9=>by
    rw [if_neg fun h7=>?_]
    ·exact h8
    ·rcases hnew k h7 with h6 | h6
     ·rw [h8] at h6;cases h6;exact h9 rfl
     ·have:=hR.lt k (by rw [h8];simp);omega
  refine ⟨fun k=>if x.blk=some k then some 5 else T k,⟨(old hR.tcb (by decide)).trans hR.cells,hc,hR.map.congr (old hR.tmb (by decide)),hR.out.congr fun k hk _ _=>old (hR.tso k hk) (by decide),hR.told.congr fun k hk _ _=>old (hR.tst k hk) (by decide),hx,
    tag hR.tcb (by decide),tag hR.trb (by decide),tag hR.tmb (by decide),fun k hk=>tag (hR.tso k hk) (by decide),fun k hk=>tag (hR.tst k hk) (by decide),fun k hk=>by rw [if_pos hk],fun k hk=>?_⟩,⟨hu.mono fun k _ hk=>by subst hk;rw [hR.trb];simp,fun k hk=>?_⟩,fun k hk=>?_⟩
  ·by_cases h8:x.blk=some k
   ·exact hlt k h8
   ·rw [if_neg h8] at hk
    have:=hR.lt k hk
    have:=hu.size
    omega
  ·by_cases h8:x.blk=some k
   ·rcases hnew k h8 with h7 | h7
    ·exact .inl (by rw [h7];simp)
    ·exact .inr h7
   ·rw [if_neg h8] at hk
    exact .inl hk
  ·dsimp only at hk
   by_cases h8:x.blk=some k
   ·exact .inr h8
   ·rw [if_neg h8] at hk
    exact .inl hk
theorem Zok {h:Zb} {T:Nat→Option Nat} {cb rb mb:Nat} {so st sb:Sl} {c:Cl} (hR:ClR h T cb rb mb so st sb c) {K:Zb→Prop} (hk:∀ h' T',ClR h' T' cb rb mb so st ⟨none,0,0⟩ { c with rb:=[],broken:=false }→Stp T T' h h'→K h'):Zae (some ⟨rb,0,none⟩) K h:=by
  unfold Zae Zcv
  refine ZF (Zh (Zig hR.rcell (show 0<2 by decide) rfl fun h1 c1 u1 z1=>Zh (Zig c1 (show 0+1<2 by decide) rfl fun h4 c4 u4 z4=>?_)))
  obtain ⟨T',hR',st',_⟩:=hR.setRd (x:=⟨none,0,0⟩) (l:=[]) (br:=false) c4 (Row.nil _ 1) (fun k hk=>by simp [Sl.blk] at hk) (fun k hk=>by simp [Sl.blk] at hk) (u1.trans u4)
  exact hk h4 T' hR' st'
def Cl.down (c:Cl):Cl:={ c with up:=false,waits:=[],told:=c.told++c.waits.map fun p=>Zfg p.1,out:=[],rb:=[],broken:=false,dial:=c.last+c.backoff,backoff:=min (2*c.backoff) c.most }
def Cl.downK (c:Cl) (k:Nat):Cl:={ c with up:=false,waits:=c.waits.drop k,told:=c.told++(c.waits.take k).map fun p=>Zfg p.1 }
theorem ZmT {h:Zb} {T:Nat→Option Nat} {cb:Nat} {c:Cl} (hC:Client h T cb c) (hW:WOK c) (hN:NOK c) {K:Zb→Prop} (hk:∀ h' T',Client h' T' cb c.down→Stp T T' h h'→K h'):Y2 (some ⟨cb,0,none⟩) K h:=by
  obtain ⟨rb,mb,so,st,sb,hR⟩:=hC
  unfold Y2 ZcC
  have hnext:=hW.next
  have hsum:=hW.sum
  have hb64:∀ p,p∈c.waits→ -9223372036854775808≤p.1∧p.1<9223372036854775808:=fun p hp=>by have:=hW.ids p hp;omega
  refine Zh (hR.setF { c with up:=false } (by decide) rfl rfl rfl rfl rfl rfl rfl fun h1 hR1 st1 z1=>Zin hR1 hW.asc hb64 (by show c.waits.length≤_;omega) fun s h2 hs2 e2=>?_)
  have hsl:s.len=c.waits.length:=by
    have:=hs2.len
    simp at this
    omega
  have hs0:∀ k,s.blk=some k→T k=none:=fun k hk=>Za3 hR.lt (by have:=(hs2.lt hk).1;omega)
  refine Yc (fun p h'=>∃ (k:Nat) (T':Nat→Option Nat),p.1=(k:Int)∧k≤c.waits.length∧Client h' T' cb (c.downK k)∧Stp T T' h2 h') (fun p _=>c.waits.length - p.1.toNat)
    ⟨0,T,rfl,Nat.zero_le _,⟨rb,mb,so,st,sb,?_⟩,Stp.refl _ _⟩ ?_
  ·have e:c.downK 0={ c with up:=false }:=by simp [Cl.downK]
   rw [e]
   exact hR1.ext e2
  rintro ⟨i,u⟩ h4 ⟨k,T4,hi,hkl,hC4,st4⟩
  dsimp only at hi
  subst hi
  dsimp only
  refine Zj (fun hlt=>?_) (fun hge=>?_)
  ·have hk1:k<c.waits.length:=by omega
   have hp:c.waits[k]?=some c.waits[k]:=List.getElem?_eq_getElem hk1
   have htk:c.waits.take (k+1)=c.waits.take k++[c.waits[k]]:=List.take_succ_eq_append_getElem hk1
   have hdk:c.waits.drop k=c.waits[k]::c.waits.drop (k+1):=List.drop_eq_getElem_cons hk1
   generalize c.waits[k]=p at hp htk hdk
   have hsr:ZiL h4 s (c.waits.map (·.1)):=(hs2.congr (h':=h4) fun k hk hl _=>st4.upd.old k hl fun h9=>h9 (hs0 k hk)).row
   refine ZiL.idx hsr rfl (x:=p.1) (by rw [List.getElem?_map,hp];rfl) (Za ?_)
   have hasc:Asc (c.downK k).waits:=List.Pairwise.sublist (List.drop_sublist k c.waits) hW.asc
   refine ZmQ hC4 hasc (i:=0) (p:=p) (by show (c.waits.drop k)[0]?=_;rw [hdk];rfl) (by
     show (c.told++List.map _ _).length≤_
     rw [List.length_append,List.length_map,List.length_take];omega) fun h8 T8 hC8 st8=>?_
   rw [ZR (n:=(k:Int)+1) (by omega) (by omega)]
   refine ⟨⟨k+1,T8,by omega,by omega,?_,st4.trans st8⟩,by omega⟩
   have e:(c.downK k).fallI 0 p.1=c.downK (k+1):=by
     unfold Cl.fallI Cl.downK
     dsimp only
     rw [htk,hdk]
     simp
   rw [← e]
   exact hC8
  ·have hk2:k=c.waits.length:=by omega
   obtain ⟨rb4,mb4,so4,st4',sb4,hR4⟩:=hC4
   refine Zh (hR4.setOut (x:=⟨none,0,0⟩) (l:=[]) (Own.nil _ _ 1) (fun k hk=>by simp [Sl.blk] at hk) (Upd.refl _ _) fun h11 T11 hR11 st11 _=>Zh (ZgU hR11.cells rfl (Zok hR11 fun h15 T15 hR15 st15=>?_)))
   refine Zjx ⟨_,_,_,_,_,hR15⟩ hW.last (hN.noF (c':={ { c.downK k with out:=[]} with rb:=[],broken:=false }) rfl rfl rfl rfl rfl rfl) fun h16 hC16 st16=>?_
   have e:({ { c.downK k with out:=[]} with rb:=[],broken:=false }:Cl).failed=c.down:=by
     unfold Cl.failed Cl.downK Cl.down
     rw [hk2,List.take_length,List.drop_length]
   rw [e] at hC16
   exact hk h16 T15 hC16 (((((st1.trans (Stp.ofExt e2)).trans st4).trans st11).trans st15).trans st16)
def Cl.lostE (c:Cl) (at_:Int):Int:=if c.atE at_=0 then (if c.up then 0 else 51) else c.atE at_
def Cl.lostS (c:Cl) (at_:Int):Cl:=if c.atE at_=0 then (if c.up then (c.tick at_).down else c.tick at_) else c
theorem Zxh (c:Option Addr) (a:Int) (t:Option Addr × Unit) (K:Int→Zb→Prop) (h:Zb):Yk c a t K h=Zu Zk Zq (fun K h=>XK t.1 K h) c a K h:=rfl
theorem Zuy (c:Option Addr) (a:Int) (t:Option Addr × Option Addr × Unit) (K:Int→Zb→Prop) (h:Zb):Yg c a t K h=Zu Zk Zq (fun K h=>Xs t.1 t.2.1 K h) c a K h:=rfl
theorem Zs5 {h:Zb} {T:Nat→Option Nat} {cb:Nat} {c:Cl} (hC:Client h T cb c) (hW:WOK c) (hN:NOK c) {at_:Int} {K:Int→Zb→Prop} (hk:∀ h' T',Client h' T' cb (c.lostS at_)→Stp T T' h h'→K (c.lostE at_) h'):Zah (some ⟨cb,0,none⟩) at_ K h:=by
  unfold Zah ZcG
  refine Za1 fun h1 c1 e1 z1=>Za (ZgU c1 rfl ?_)
  have n1:T h.size=none:=Za3 hC.lt (Nat.le_refl _)
  rw [Zxh]
  refine ZdD (hC.ext e1) hW (fun he=>Za ?_) fun he h' T' hC' st'=>?_
  ·have:=hk h1 T (by unfold Cl.lostS;rw [if_neg he];exact hC.ext e1) (Stp.ofExt e1)
   unfold Cl.lostE at this
   rw [if_neg he] at this
   exact this
  ·have f1:=st'.keep n1 c1
   have stT:=(Stp.ofExt (T:=T) e1).trans st'
   have hC2:=hC'
   obtain ⟨rb,mb,so,st,sb,hR⟩:=hC'
   unfold Cl.lostE Cl.lostS at hk
   rw [if_pos he,if_pos he] at hk
   unfold XK ZbM
   refine Za (Zh (ZgU f1 rfl (Zh (Znl hR.cells rfl ?_))))
   have hup:(c.tick at_).up=c.up:=rfl
   rw [hup]
   cases hu:c.up with
   | false =>
     rw [hu] at hk
     exact ZF (Za (Za (hk h' T' hC2 stT)))
   | true =>
     rw [hu] at hk
     exact Zl (Zh (ZgU f1 rfl (ZmT hC2 (hW.tick he) (hN.tick at_) fun h15 T15 hC15 st15=>Za (Za (hk h15 T15 hC15 (stT.trans st15))))))
theorem Zs0 {h:Zb} {T:Nat→Option Nat} {cb:Nat} {c:Cl} (hC:Client h T cb c) {K:Sl→Zb→Prop}
    (hk:∀ s h' T',Own h' 0 s 1 (c.out.map bv)→Client h' T' cb { c with out:=[]}→Stp T T' h h'→K s h'):Za4 (some ⟨cb,0,none⟩) K h:=by
  obtain ⟨rb,mb,so,st,sb,hR⟩:=hC
  refine Zl (Zh (Zjk (s:=so) hR.cells rfl (Zh (hR.setOut (x:=⟨none,0,0⟩) (l:=[]) (Own.nil _ _ 1) (fun k hk=>by simp [Sl.blk] at hk) (Upd.refl _ _) fun h3 T3 hR3 st3 u3=>?_))))
  refine hk so h3 T3 (hR.out.congr fun k hk hl _=>u3.old k hl fun h9=>?_) ⟨rb,mb,⟨none,0,0⟩,st,sb,hR3⟩ st3
  have:=hR.tso k hk
  rw [h9,hR.tcb] at this
  cases this
def Cl.answ (c:Cl) (a:An):Cl:=if c.waits.any (fun p=>p.1 ==a.1) then { c with waits:=c.waits.filter (fun p=>p.1 !=a.1),told:=c.told++[⟨a.1,a,false⟩]} else c
theorem Zm0:∀ {l:List (Int × Int)},Asc l→∀ {i:Nat} {p:Int × Int},l[i]?=some p→l.eraseIdx i=l.filter (fun q=>q.1 !=p.1)
  | [],_,i,p,h=>by simp at h
  | x::l,ha,0,p,h=>by
    simp only [List.getElem?_cons_zero,Option.some.injEq] at h
    subst h
    have h1:=(List.pairwise_cons.1 ha).1
    have:l.filter (fun q=>q.1 !=x.1)=l:=List.filter_eq_self.2 fun q hq=>by
      have:=h1 q hq
      simp
      omega
    simp [this]
  | x::l,ha,i+1,p,h=>by
    have h1:=(List.pairwise_cons.1 ha).1
    have hl:l[i]?=some p:=by simpa using h
    have:=h1 p (List.mem_of_getElem? hl)
    have hx:(x.1 !=p.1)=true:=by simp;omega
    rw [List.eraseIdx_cons_succ,Zm0 (List.pairwise_cons.1 ha).2 hl,List.filter_cons,hx]
    rfl
theorem ZlG {h:Zb} {T:Nat→Option Nat} {cb:Nat} {c:Cl} (hC:Client h T cb c) (ha:Asc c.waits) (hl:c.told.length≤1099511627776) {a:An} {K:Zb→Prop}
    (hk:∀ h' T',Client h' T' cb (c.answ a)→Stp T T' h h'→K h'):Xh (some ⟨cb,0,none⟩) a K h:=by
  unfold Xh Zbj
  obtain ⟨a1,a2,a3,a4,a5,u⟩:=a
  refine Za1 fun h1 c1 e1 z1=>Zh ?_
  obtain ⟨rb,mb,so,st,sb,hR⟩:=hC
  have hR1:=hR.ext e1
  have n1:T h.size=none:=Za3 hR.lt (Nat.le_refl _)
  refine ZwV hR1.cells rfl (YS c1 rfl ?_)
  cases hany:c.waits.any (fun p=>p.1 ==a1) with
  | false =>
    have hno:∀ p,p∈c.waits→p.1≠a1:=fun p hp he=>by
      have:c.waits.any (fun p=>p.1 ==a1)=true:=List.any_eq_true.2 ⟨p,hp,by simp [he]⟩
      rw [hany] at this
      cases this
    refine hR1.map.getNone hno ⟨0,rfl,Za (Zx (Zl ?_))⟩
    refine hk h1 T ?_ (Stp.ofExt e1)
    unfold Cl.answ
    rw [hany]
    exact ⟨rb,mb,so,st,sb,hR1⟩
  | true =>
    obtain ⟨p,hp,hpe⟩:=List.any_eq_true.1 hany
    have hpe:p.1=a1:=by simpa using hpe
    obtain ⟨i,hi⟩:=List.getElem?_of_mem hp
    subst hpe
    refine hR1.map.get ha hi ⟨p.2,rfl,Za (Zx (ZF (Zh (ZwV hR1.cells rfl (YS c1 rfl (hR1.map.del ha hi fun h9 m9 u9 z9=>Zh ?_))))))⟩
    obtain ⟨hR9,st9⟩:=hR1.setMap m9 u9 z9
    have c9:=st9.keep n1 c1
    refine Zjk (s:=st) hR9.cells rfl (YS c9 rfl (YS c9 rfl (YS c9 rfl (YS c9 rfl (YS c9 rfl (YS c9 rfl (Za1 fun h20 c20 e20 z20=>?_)))))))
    have d20:=Xi c9 e20
    have hR20:=hR9.ext e20
    have hrow:Row h20 ⟨some ⟨h9.size,0,none⟩,1,1⟩ 7 (tC ⟨p.1,(p.1,a2,a3,a4,a5,()),false⟩):=⟨rfl,Nat.le_refl _,(show 1<9223372036854775808 by decide),.inr ⟨h9.size,0,rfl,ZaD c20 fun i v hi=>by simpa [tC] using hi⟩⟩
    have htl:st.len=c.told.length:=by
      have:=hR.told.len
      rw [Z7 ZiU] at this
      omega
    refine ⟨⟨(Zn d20).trans rfl,(Zn d20).trans rfl,(Zn d20).trans rfl,(Zn d20).trans rfl,(Zn d20).trans rfl,trivial⟩,⟨(Zn d20).trans rfl,trivial⟩,⟨(Zn hR20.cells).trans rfl,trivial⟩,hrow.rd (Own.app hR20.told rfl rfl rfl (by omega) (by omega) (Nat.zero_le _) fun t21 h22 ho22 hl22 hu22 hblk=>?_)⟩
    have d22:h22[h.size]?=_:=(hu22.old _ (Xl d20) fun h9'=>by have:=hR20.tst _ h9';rw [n1] at this;cases this).trans d20
    refine ⟨⟨(Zn d22).trans rfl,(Zn d22).trans rfl,(Zn d22).trans rfl,(Zn d22).trans rfl,(Zn d22).trans rfl,trivial⟩,⟨(Zn d22).trans rfl,trivial⟩,Zh ?_⟩
    have e:({ c with waits:=c.waits.eraseIdx i }:Cl).told.flatMap tC++tC ⟨p.1,(p.1,a2,a3,a4,a5,()),false⟩=(c.told++[(⟨p.1,(p.1,a2,a3,a4,a5,()),false⟩:Tld)]).flatMap tC:=by simp
    rw [e] at ho22
    refine hR9.setTold ho22 (fun k hk=>?_) (Upd.then (e20.upd _) hu22 fun k _ h8=>hR9.tst k h8) fun h25 T25 hR25 st25 _=>?_
    ·rcases hblk with h9' | h9'
     ·exact .inl (hR9.tst k (h9'▸hk))
     ·rw [h9'] at hk
      cases hk
      exact .inr (by omega)
    ·refine hk h25 T25 ⟨rb,mb,so,t21,sb,?_⟩ (((Stp.ofExt e1).trans st9).trans st25)
     unfold Cl.answ
     rw [hany,if_pos rfl,← Zm0 ha hi]
     exact hR25
def Cl.take (c:Cl):List (List UInt8)→Cl × Bool
  | []=>(c,false)
  | p::ps=>if (ZbP p).2.1≠0 then (c,true) else (c.answ (ZbP p).1).take ps
def Cl.putB (c:Cl) (l:List UInt8):Cl × Int :=
  let q:=putS c.rb c.broken l
  let r:=({ c with rb:=q.2.2,broken:=q.2.1 }:Cl).take q.1
  let e:Int:=if r.2 then 50 else if q.2.1 then 50 else 0
  (if e=0 then r.1 else r.1.down,e)
def Cl.bytesR (c:Cl) (at_:Int) (l:List UInt8):Cl × Int:=if c.atE at_=0 then (if c.up then (c.tick at_).putB l else (c.tick at_,51)) else (c,c.atE at_)
theorem WOK.answ {c:Cl} (hW:WOK c) (a:An):WOK (c.answ a):=by
  unfold Cl.answ
  split
  ·rename_i hany
   obtain ⟨p,hp,hpe⟩:=List.any_eq_true.1 hany
   refine ⟨Zfk hW.asc _,fun p hp=>hW.ids p (List.mem_filter.1 hp).1,fun p hp=>hW.ats p (List.mem_filter.1 hp).1,hW.last,hW.next,?_⟩
   have hs:=hW.sum
   show (c.told++[_]).length+(c.waits.filter _).length≤_
   rw [List.length_append]
   have:(c.waits.filter (fun p=>p.1 !=a.1)).length<c.waits.length:=by
     refine List.length_filter_lt_length_iff_exists.2 ⟨p,hp,?_⟩
     simp at hpe
     simp [hpe]
   simp only [List.length_cons,List.length_nil]
   omega
  ·exact hW
theorem NOK.answ {c:Cl} (hN:NOK c) (a:An):NOK (c.answ a):=by
  unfold Cl.answ
  split
  ·exact ⟨hN.tmo,hN.least,hN.back,hN.most,hN.name⟩
  ·exact hN
theorem WOK.rbs {c:Cl} (hW:WOK c) {l:List UInt8} {b:Bool}:WOK { c with rb:=l,broken:=b }:=⟨hW.asc,hW.ids,hW.ats,hW.last,hW.next,hW.sum⟩
theorem NOK.rbs {c:Cl} (hN:NOK c) {l:List UInt8} {b:Bool}:NOK { c with rb:=l,broken:=b }:=⟨hN.tmo,hN.least,hN.back,hN.most,hN.name⟩
theorem WOK.take:∀ {l:List (List UInt8)} {c:Cl},WOK c→WOK (c.take l).1
  | [],c,h=>h
  | p::ps,c,h=>by
    unfold Cl.take
    split
    ·exact h
    ·exact WOK.take (h.answ _)
theorem NOK.take:∀ {l:List (List UInt8)} {c:Cl},NOK c→NOK (c.take l).1
  | [],c,h=>h
  | p::ps,c,h=>by
    unfold Cl.take
    split
    ·exact h
    ·exact NOK.take (h.answ _)
theorem Zkc:∀ (l:List (List UInt8)) (c:Cl) (k:Nat) (p:List UInt8),l[k]?=some p→∀ c1,(c.take (l.take k))=(c1,false)→c.take (l.take (k+1))=(if (ZbP p).2.1≠0 then (c1,true) else (c1.answ (ZbP p).1,false))∧((ZbP p).2.1≠0→c.take l=(c1,true))
  | [],c,k,p,h,c1,hc=>by simp at h
  | x::l,c,0,p,h,c1,hc=>by
    simp only [List.getElem?_cons_zero,Option.some.injEq] at h
    subst h
    simp only [List.take_zero,Cl.take,Prod.mk.injEq,and_true] at hc
    subst hc
    refine ⟨?_,fun hx=>?_⟩
    ·show Cl.take c (x::l.take 0)=_
     unfold Cl.take
     split
     ·rfl
     ·rw [List.take_zero]
      rfl
    ·unfold Cl.take
     rw [if_pos hx]
  | x::l,c,k+1,p,h,c1,hc=>by
    have hl:l[k]?=some p:=by simpa using h
    rw [List.take_succ_cons] at hc
    unfold Cl.take at hc
    split at hc
    ·simp at hc
    ·rename_i hx
     obtain ⟨i1,i2⟩:=Zkc l (c.answ (ZbP x).1) k p hl c1 hc
     refine ⟨?_,fun hp=>?_⟩
     ·rw [List.take_succ_cons,Cl.take,if_neg hx]
      exact i1
     ·rw [Cl.take,if_neg hx]
      exact i2 hp
theorem Zqc {h:Zb} {T:Nat→Option Nat} {cb:Nat} {c:Cl} (hC:Client h T cb c) (hW:WOK c) (hN:NOK c) (hbr:c.broken=false) {at_:Int} {b:Sl} {l:List UInt8} (hb:Bytes h b l) (hbT:l≠[]→∀ k,b.blk=some k→T k=none) (hsz:c.rb.length+l.length≤1099511627776) {K:Int→Zb→Prop}
    (hk:∀ h' T',Client h' T' cb (c.bytesR at_ l).1→Stp T T' h h'→K (c.bytesR at_ l).2 h'):XZ (some ⟨cb,0,none⟩) at_ b K h:=by
  unfold XZ Zca
  refine Za1 fun h1 c1 e1 z1=>Za1 fun h2 c2 e2 z2=>Za (ZgU (Xi c1 e2) rfl ?_)
  have d1:=Xi c1 e2
  have x2:=e1.trans e2
  have n1:T h.size=none:=Za3 hC.lt (Nat.le_refl _)
  have n2:T h1.size=none:=Za3 hC.lt (by omega)
  rw [Zuy]
  refine ZdD (hC.ext x2) hW (fun he=>Za ?_) fun he h' T' hC' st'=>?_
  ·have:=hk h2 T (by unfold Cl.bytesR;rw [if_neg he];exact hC.ext x2) (Stp.ofExt x2)
   unfold Cl.bytesR at this
   rw [if_neg he] at this
   exact this
  ·have f1:=st'.keep n1 d1
   have f2:=st'.keep n2 c2
   have m1:=st'.none_ n1 (Xl d1)
   have stT:=(Stp.ofExt (T:=T) x2).trans st'
   have hC2:=hC'
   obtain ⟨rb,mb,so,st,sb,hR⟩:=hC'
   unfold Cl.bytesR at hk
   rw [if_pos he] at hk
   unfold Xs Zbw
   refine Za (Zh (ZgU f1 rfl (Zh (Znl hR.cells rfl ?_))))
   have hup:(c.tick at_).up=c.up:=rfl
   rw [hup]
   cases hu:c.up with
   | false =>
     rw [hu] at hk
     exact ZF (Za (Za (hk h' T' hC2 stT)))
   | true =>
     rw [hu] at hk
     simp only [if_true] at hk
     refine Zl (Zh (ZgU f1 rfl (Zh (ZgU hR.cells rfl (Zh (Zjk (s:=b) f2 rfl ?_))))))
     have hb':Bytes h' b l:=(hb.ext x2).congr fun k o hp hne hl=>st'.upd.old k hl fun h9=>h9 (hbT (fun he=>hne (by rw [he];rfl)) k (by simp [Sl.blk,hp]))
     have hG:IsG 173 h' rb (fun k=>k≠rb) c.rb c.broken:=⟨⟨sb,hR.rcell,hR.rbs,(fun k hk h9=>by have:=hR.tsb k hk;rw [h9,hR.trb] at this;cases this),(fun h9=>by rw [hbr] at h9;cases h9)⟩⟩
     refine Znd hG hb' hsz fun out h17 mid hm1 hm2 hout hG17 u17=>?_
     obtain ⟨x,hx1,hx2,hx3,hx4⟩:=hG17.cells
     have f17:h17[h.size]?=_:=(u17.old _ (Xl f1) fun h9=>by rw [h9,hR.trb] at m1;cases m1).trans f1
     obtain ⟨T17,hR17,st17,only17⟩:=hR.setRd hx1 hx2 (fun k hk=> .inr (hx3 k hk).1) (fun k hk=>by have:=(hx3 k hk).2;omega) u17
     have m17:=st17.none_ m1 (Xl f1)
     have f17':=f17
     have hmid:∀ k,mid≤k→T17 k=none:=fun k hk=>Classical.byContradiction fun h9=>by
       rcases only17 k h9 with h8 | h8
       ·have:=hR.lt k h8;omega
       ·have:=(hx3 k h8).2;omega
     have hq:putS (c.tick at_).rb (c.tick at_).broken l=putS c.rb c.broken l:=rfl
     unfold Cl.putB at hk
     dsimp only at hk
     rw [hq] at hk
     have W2:WOK { c.tick at_ with rb:=(putS c.rb c.broken l).2.2,broken:=(putS c.rb c.broken l).2.1 }:=(hW.tick he).rbs
     have N2:NOK { c.tick at_ with rb:=(putS c.rb c.broken l).2.2,broken:=(putS c.rb c.broken l).2.1 }:=(hN.tick at_).rbs
     generalize putS c.rb c.broken l=q at hk hout hG17 hx1 hx2 hx4 hR17 W2 N2 ⊢
     generalize ({ c.tick at_ with rb:=q.2.2,broken:=q.2.1 }:Cl)=c2 at hk hR17 W2 N2
     have hol:out.len=q.1.length:=Xj.len hout
     have hob:out.len<9223372036854775808:=by
       obtain ⟨_,ho,_⟩:=hout.rows
       have:=ho.cap
       have:=ho.big
       omega
     refine ⟨⟨(Zn f17).trans rfl,trivial⟩,Za ?_⟩
     refine ZbA (fun s h44=>∃ T44,s.1=(if (c2.take q.1).2 then 50 else if q.2.1 then 50 else 0:Int)∧Client h44 T44 cb (c2.take q.1).1∧Stp T17 T44 h17 h44) ?_ ?_
     ·rintro ⟨er,u⟩ h44 ⟨T44,hs,hC44,st44⟩
      dsimp only at hs
      subst hs
      have f44:=st44.keep m17 f17
      dsimp only
      by_cases hz:(if (c2.take q.1).2 then 50 else if q.2.1 then 50 else 0:Int)=0
      ·rw [hz] at hk ⊢
       rw [if_pos rfl] at hk
       exact Zl (Za (Za (hk h44 T44 hC44 ((stT.trans st17).trans st44))))
      ·rw [if_neg hz] at hk
       refine ZaS (by simpa using hz) (Zh (ZgU f44 rfl (ZmT hC44 (WOK.take W2) (NOK.take N2) fun h48 T48 hC48 st48=>Za (Za (hk h48 T48 hC48 (((stT.trans st17).trans st44).trans st48))))))
     ·refine Yc (fun p h'=>∃ (k:Nat) (T':Nat→Option Nat) (c':Cl),p.1=(if q.2.1 then 50 else 0:Int)∧p.2.1=(k:Int)∧k≤q.1.length∧Client h' T' cb c'∧Stp T17 T' h17 h'∧c2.take (q.1.take k)=(c',false)) (fun p _=>q.1.length - p.2.1.toNat)
        ⟨0,T17,c2,rfl,rfl,Nat.zero_le _,⟨rb,mb,so,st,x,hR17⟩,Stp.refl _ _,rfl⟩ ?_
      rintro ⟨er,i,u⟩ h21 ⟨k,T21,c',hs,hi,hkl,hC21,st21,htk⟩
      dsimp only at hs hi
      subst hs hi
      dsimp only
      refine Zj (fun hlt=>?_) (fun hge=>?_)
      ·have hk1:k<q.1.length:=by omega
       have hp:q.1[k]?=some q.1[k]:=List.getElem?_eq_getElem hk1
       generalize q.1[k]=p at hp
       have hout21:Xj h21 mid out q.1:=hout.congr fun k hk hge=>st21.upd.old k hk fun h9=>h9 (hmid k hge)
       obtain ⟨t1,t2⟩:=Zkc q.1 c2 k p hp c' htk
       have hW':WOK c':=by have:=WOK.take (l:=q.1.take k) W2;rw [htk] at this;exact this
       refine Xj.idx hout21 rfl hp fun y hy=>ZjN hy fun h28 e28=>Za1 fun h30 c30 e30 z30=>ZfY c30 rfl rfl fun h31 c31 u31 z31=>Za (Za ?_)
       have x31:Ext h21 h31:=(e28.trans e30).then u31 fun k hk=>by have:=e28.size;omega
       have hC31:=hC21.ext x31
       have st31:=st21.trans (Stp.ofExt (T:=T21) x31)
       by_cases hw:(ZbP p).2.1=0
       ·rw [hw]
        refine Zl (Zh ?_)
        have f31:=st31.keep m17 f17
        refine ZgU f31 rfl (YS c31 rfl (YS c31 rfl (YS c31 rfl (YS c31 rfl (YS c31 rfl (ZlG (a:=(ZbP p).1) hC31 hW'.asc (by have:=hW'.sum;omega) fun h41 T41 hC41 st41=>?_))))))
        rw [ZR (n:=(k:Int)+1) (by omega) (by omega)]
        refine ⟨⟨k+1,T41,_,rfl,by omega,by omega,hC41,st31.trans st41,?_⟩,by omega⟩
        rw [t1,if_neg (by rw [hw];exact fun h=>h rfl)]
       ·refine ZaS (by simpa using hw) (Za ⟨T21,?_,?_,st31⟩)
        ·rw [t2 hw]
         rfl
        ·rw [t2 hw]
         exact hC31
      ·have hk2:k=q.1.length:=by omega
       rw [hk2,List.take_length] at htk
       rw [htk]
       exact ⟨T21,rfl,hC21,st21⟩
end Go.Proofs.YtbppjmcinoffnaaGreat
